/- Meets over paths, in plain words; the contract of the program's Meet. -/
import Derived.Test.YtmjebjjhfoncfaaDoorEq
import Derived.Test.YtmjebjjhfoncfaaDoorEo
import Derived.Test.YtmjebjjhfoncfaaDoorEu
import Derived.Test.YtmjebjjhfoncfaaDoorEw
import Derived.Test.YtmjebjjhfoncfaaDoorLr
namespace Go.Proofs.YtmjebjjhfoncfaaDoor
open Go.RowKit Go.Df
attribute [local go_sem ↓] Go.wp_at_zero Go.wp_at_succ
/-- A slice of paths in memory. -/
def Pths (w : World) (A : Option Addr) (n : Nat) (ps : Nat → List Int) : Prop :=
  0 < n → ∃ b o, A = some ⟨b, o, none⟩ ∧ b < w.heap.size ∧ ∀ i, i < n → ∃ Ai ni ci, w.cell? ⟨b, o + i, none⟩ = some (.slice Ai ni ci) ∧ Ints w Ai ni (ps i)
theorem Pths.row {w0 w : World} {A : Option Addr} {n : Nat} {ps : Nat → List Int} (h : Pths w0 A n ps) (hb : Below w0.heap.size w0 w) {i : Nat} (hi : i < n) :
    ∃ b o Ai ni ci, A = some ⟨b, o, none⟩ ∧ b < w0.heap.size ∧ w.cell? ⟨b, o + i, none⟩ = some (.slice Ai ni ci) ∧ Ints w0 Ai ni (ps i) := by
  obtain ⟨b, o, rfl, hl, hc⟩ := h (by omega)
  obtain ⟨Ai, ni, ci, h1, h2⟩ := hc i hi
  exact ⟨b, o, Ai, ni, ci, rfl, hl, (hb.cell (p := ⟨b, _, none⟩) hl).trans h1, h2⟩
theorem Pths.later {w w' : World} {A : Option Addr} {n : Nat} {ps : Nat → List Int} (h : Pths w A n ps) (hb : Below w.heap.size w w') : Pths w' A n ps := fun h0 => by
  obtain ⟨b, o, e, hl, hc⟩ := h h0
  refine ⟨b, o, e, Nat.lt_of_lt_of_le hl hb.size, fun i hi => ?_⟩
  obtain ⟨Ai, ni, ci, h1, h2⟩ := hc i hi
  exact ⟨Ai, ni, ci, (hb.cell (p := ⟨b, _, none⟩) hl).trans h1, h2.later hb⟩
/-- The error of path i. -/
def pthErr (ns : List Sp.Nd) (es : List Sp.Ed) (mn : Int) (ps : Nat → List Int) (i : Nat) : Int :=
  if (Sp.followS ns es mn mn (ps i)).1 ≠ 0 then (Sp.followS ns es mn mn (ps i)).1 else if (Sp.followS ns es mn mn (ps i)).2.1 ≠ (Sp.followS ns es mn mn (ps 0)).2.1 then 20 else 0
def meErr (ns : List Sp.Nd) (es : List Sp.Ed) (mn F : Int) (ls : List (List Sp.Xp)) (sd : List Sp.Vs) (n : Nat) (ps : Nat → List Int) : Int :=
  if Sp.ideErr ns es mn F ls sd ≠ 0 then Sp.ideErr ns es mn F ls sd else Sp.fe (pthErr ns es mn ps) 0 n
/-- The meet of the values along the first j paths. -/
def meS (me : Xf.V → Xf.V → Xf.V) (ap : Xf.X → Xf.V → Xf.V) (es : List Sp.Ed) (ls : List (List Sp.Xp)) (sd : List Sp.Vs) (mn : Int) (ps : Nat → List Int) : Nat → Nat → Xf.V
  | 0, _ => ⟨0, 0⟩
  | j + 1, d => me (meS me ap es ls sd mn ps j d) (runJ me ap es ls sd mn (ps j) (ps j).length d)
theorem meS_ok {es : List Sp.Ed} {ls : List (List Sp.Xp)} {sd : List Sp.Vs} {mn : Int} {ps : Nat → List Int} (hs : SdOk sd) : ∀ j d, Xf.ok (meS Xf.rmeetV Xf.rapply es ls sd mn ps j d)
  | 0, _ => Xf.ok0
  | j + 1, d => Xf.meet_ok (meS_ok hs j d) (run_ok hs _ d)
theorem meS_eq {es : List Sp.Ed} {ls : List (List Sp.Xp)} {sd : List Sp.Vs} {mn : Int} {ps : Nat → List Int} (hs : SdOk sd) : ∀ j, meS Xf.meetV Xf.apply es ls sd mn ps j = meS Xf.rmeetV Xf.rapply es ls sd mn ps j
  | 0 => rfl
  | j + 1 => by
    funext d
    rw [meS, meS, meS_eq hs j, run_eq hs, Xf.meet_eq (meS_ok hs j d) (run_ok hs _ d)]

set_option maxRecDepth 100000 in
set_option maxHeartbeats 40000000 in
theorem pMeet_any (A1 A2 A3 A4 A6 : Option Addr) (n1 c1 n2 c2 n3 c3 n4 c4 n6 c6 : Nat) (mn F : Int) (ns : List Sp.Nd) (es : List Sp.Ed) (ls : List (List Sp.Xp)) (sd : List Sp.Vs) (ps : Nat → List Int) (w : World) (hg : Gr w A1 n1 A2 n2 ns es) (hf : Fls w A3 n3 ls) (hs : Vss w A4 n4 sd) (hp : Pths w A6 n6 ps) (hn6 : n6 ≤ 6) (hn4 : n4 < 4611686018427387904) (hc4 : n4 ≤ c4) (hgv : Gv w)
    (er : Int) (her : meErr ns es mn F ls sd n6 ps = er) :
    Calls Tryd.prog 18 #[.agg #[.slice A1 n1 c1, .slice A2 n2 c2, .int .i64 mn, .int .i64 F, .slice A3 n3 c3, .slice A4 n4 c4], .slice A6 n6 c6] w fun e w' =>
      ((er ≠ 0 ∧ e = .returned (.tuple #[.slice none 0 0, .int .i64 er])) ∨ (er = 0 ∧ ∃ g c, e = .returned (.tuple #[.slice (some ⟨g, 0, none⟩) F.toNat c, .int .i64 0]) ∧ Vals w' g F.toNat (meS Xf.rmeetV Xf.rapply es ls sd mn ps n6) ∧ w.heap.size ≤ g ∧ F.toNat ≤ c)) ∧ Below w.heap.size w w' := by
  have HG := Lib.hid hg
  have HF := Lib.hid hf
  have HS := Lib.hid hs
  have HP := Lib.hid hp
  have HER := Lib.hid her
  have HGV := Lib.hid hgv
  clear hg hf hs hp her hgv
  go_enter Tryd.func18, Tryd.ntmps18
  go_upto_region 1 with fail
  refine wp_named (fun W => ∃ b0, w.heap.size = b0 ∧ Blk W b0 [.slice A1 n1 c1, .slice A2 n2 c2, .int .i64 mn, .int .i64 F, .slice A3 n3 c3, .slice A4 n4 c4] ∧ Below w.heap.size w W) ⟨_, rfl, ?_, ?_⟩ ?_
  · exact Blk.new _ _ _ _ (by first | rfl | simp)
  · go_grown
  rintro W ⟨b0, e0, B0, hB⟩
  rw [e0]
  have G0 : w.heap.size ≤ b0 := by omega
  clear e0
  have ⟨L0, C0, F0⟩ := B0
  have hkW : Kept [] w W := (Kept.refl _ _).call hB
  have hWs := hkW.size
  obtain ⟨ie, hie⟩ : ∃ ie, Sp.ideErr ns es mn F ls sd = ie := ⟨_, rfl⟩
  have HIE := Lib.hid hie
  clear hie
  go_upto_region 2 with (go_at_call 20; refine (ideck_any A1 A2 A3 A4 n1 c1 n2 c2 n3 c3 n4 c4 mn F ns es ls sd _ (HG.out.nd.later hB) (HG.out.ed.later hB) (HF.out.later hB) (HS.out.later hB) (by omega) HG.out.wn HG.out.we (HGV.out.later hB)).mono ?_; rw [HIE.out]; rintro e w1 ⟨rfl, hb1⟩)
  have hk1 : Kept [] W w1 := (Kept.refl _ _).call hb1
  have hkw1 : Kept [] w w1 := keptTrans hkW hk1
  have ⟨L1, C1, F1⟩ := hk1.blk (by simp) B0
  clear C0 F0
  by_cases h0 : ie = 0
  case neg =>
    have h0' : (ie != 0) = true := by simpa using h0
    have hE : Hid (er = ie) := by show _ = _; rw [← HER.out]; unfold meErr; rw [HIE.out, if_pos h0]
    have h0n : Hid (er ≠ 0) := by show _ ≠ _; rw [hE.out]; exact h0
    clear h0
    go_wp2_with fail
    go_ret2
    exact ⟨.inl ⟨h0n.out, by rw [hE.out]; rfl⟩, hkw1.toBelow⟩
  subst h0
  have hE : Hid (er = Sp.fe (pthErr ns es mn ps) 0 n6) := by show _ = _; rw [← HER.out]; unfold meErr; rw [HIE.out, if_neg (by simp)]
  have hok := ide_parts HIE.out
  obtain ⟨Fn, rfl⟩ := Int.eq_ofNat_of_zero_le (show 0 ≤ F by have := hok.f1; omega)
  have hFn2 : Fn ≤ 1024 := by have := hok.f2; omega
  have HO := Lib.hid hok
  clear hok
  obtain ⟨en0, hen0⟩ : ∃ x, (Sp.followS ns es mn mn (ps 0)).2.1 = x := ⟨_, rfl⟩
  have HEN0 := Lib.hid hen0
  clear hen0
  go_wp2_with fail
  clear C1 F1
  go_loopw [7, 25] (fun s7 s25 wr => ∃ (i : Nat) (cm : Int), i ≤ n6 ∧ s25 = .int .i64 i ∧ s7 = .int .i64 cm ∧ Hid (i ≠ 0 → cm = en0) ∧ Kept [] W wr ∧ Hid (∀ x, x < i → pthErr ns es mn ps x = 0)) (fun _ s _ => n6 - (intOf s).toNat)
  case atStart => exact ⟨0, 0, Nat.zero_le _, rfl, rfl, Lib.hid (fun h => absurd rfl h), hk1, Lib.hid (fun x hx => absurd hx (by omega))⟩
  case round =>
    obtain ⟨i, cm, hi, rfl, rfl, hcm, hkr, hall⟩ := hrel
    have hkwr : Kept [] w wr := keptTrans hkW hkr
    have ⟨LR, CR, FR⟩ := hkr.blk (by simp) B0
    by_cases hlt : i < n6
    · obtain ⟨b6, o6, Ai, ni, ci, rfl, hl6, hc6, hpi⟩ := HP.out.row hkwr.toBelow hlt
      have HPI := Lib.hid hpi
      clear hpi
      have hl6r : b6 < wr.heap.size := Nat.lt_of_lt_of_le hl6 hkwr.size
      have hi1 : (i : Int) < (n6 : Int) := by omega
      obtain ⟨fe, fa, fc, hfe⟩ : ∃ a b c, Sp.followS ns es mn mn (ps i) = (a, b, c) := ⟨_, _, _, rfl⟩
      have HFE := Lib.hid hfe
      clear hfe
      have hbad : Hid (∀ e, pthErr ns es mn ps i = e → e ≠ 0 → er = e) := fun e h1 h2 => by rw [hE.out]; exact Sp.fe_hit hall.out hlt h1 h2
      go_upto_region 9 with (go_at_call 33; refine (end_any A1 A2 Ai n1 c1 n2 c2 ni ci mn mn ns es (ps i) _ (HG.out.kept hkwr) (HPI.out.later hkwr.toBelow)).mono ?_; rw [HFE.out]; rintro e w2 ⟨rfl, hb2⟩)
      have hk2 : Kept [] W w2 := hkr.call hb2
      have hkw2 : Kept [] w w2 := keptTrans hkW hk2
      clear CR FR hc6
      by_cases h0 : fe = 0
      case neg =>
        have h0' : (fe != 0) = true := by simpa using h0
        have hX : Hid (er = fe) := hbad.out fe (by unfold pthErr; rw [HFE.out, if_pos h0]) h0
        have h0n : Hid (er ≠ 0) := by show _ ≠ _; rw [hX.out]; exact h0
        clear h0
        go_wp2_with fail
        go_ret2
        exact ⟨.inl ⟨h0n.out, by rw [hX.out]; rfl⟩, hkw2.toBelow⟩
      subst h0
      by_cases hi0 : i = 0
      · subst hi0
        obtain rfl : fa = en0 := by have := HEN0.out; rw [HFE.out] at this; exact this
        have hfin : Hid (∀ x, x < 0 + 1 → pthErr ns es mn ps x = 0) := fun x hx => by
          obtain rfl : x = 0 := by omega
          unfold pthErr
          rw [if_neg (by rw [HFE.out]; simp), if_neg (by simp)]
        go_wp2_with fail
        exact ⟨⟨0 + 1, fa, by omega, by go_num, rfl, Lib.hid (fun _ => rfl), hk2, hfin⟩, by simp [intOf]; omega⟩
      · have y1 : ((i : Int) == 0) = false := by simp; omega
        have y2 : (i == 0) = false := by simp; omega
        obtain rfl : cm = en0 := hcm.out hi0
        by_cases hm : fa = cm
        · have hm' : (fa != cm) = false := by simpa using hm
          have hfin : Hid (∀ x, x < i + 1 → pthErr ns es mn ps x = 0) := fun x hx => by
            rcases Nat.lt_or_ge x i with h9 | h9
            · exact hall.out x h9
            · obtain rfl : x = i := by omega
              unfold pthErr
              rw [HFE.out, if_neg (by simp), HEN0.out, if_neg (by simpa using hm)]
          clear hm
          go_wp2_with fail
          exact ⟨⟨i + 1, cm, by omega, by go_num, rfl, Lib.hid (fun _ => rfl), hk2, hfin⟩, by simp [intOf]; omega⟩
        · have hm' : (fa != cm) = true := by simpa using hm
          have hX : Hid (er = 20) := hbad.out 20 (by unfold pthErr; rw [HFE.out, if_neg (by simp), HEN0.out, if_pos hm]) (by omega)
          have h0n : Hid (er ≠ 0) := by show _ ≠ _; rw [hX.out]; omega
          clear hm
          go_wp2_with fail
          go_ret2
          exact ⟨.inl ⟨h0n.out, by rw [hX.out]; rfl⟩, hkw2.toBelow⟩
    · obtain rfl : i = n6 := by omega
      have hE0 : Hid (er = 0) := by show _ = _; rw [hE.out]; exact Sp.fe_ok _ 0 (fun x _ hx => hall.out x (by omega))
      have HPV : Hid (∀ x, x < i → (ps x).length ≤ 4096 ∧ ∀ j, j < (ps x).length → 0 ≤ gi (ps x) j ∧ gi (ps x) j < es.length) := fun x hx => by
        have h9 := hall.out x hx
        unfold pthErr at h9
        split at h9
        · rename_i h8; exact absurd h9 h8
        · rename_i h8
          exact follow_in (Decidable.byContradiction h8)
      go_upto_region 17 with (go_at_call 34; refine (folder_any Fn _ hFn2).mono ?_; rintro e w3 ⟨g, hb, rfl, hv1, hbb1, hgW, hhW, hne, hb3⟩)
      have hk3 : Kept [] W w3 := hkr.call hb3
      have V1 := Lib.hid hv1
      have BB1 := Lib.hid hbb1
      have hgW' : W.heap.size ≤ g := Nat.le_trans hkr.size hgW
      clear hv1 hbb1 CR FR
      go_wp2_with fail
      go_loopw [58] (fun s wr => ∃ j : Nat, j ≤ i ∧ s = .int .i64 j ∧ Kept [] W wr ∧ Hid (Vals wr g Fn (meS Xf.meetV Xf.apply es ls sd mn ps j)) ∧ Hid (Blk wr hb [.slice (some ⟨g, 0, none⟩) Fn Fn])) (fun s _ => i - (intOf s).toNat)
      case atStart => exact ⟨0, Nat.zero_le _, rfl, hk3, V1, BB1⟩
      case round =>
        rename World => wp
        clear V1 BB1
        obtain ⟨j, hj, rfl, hkp, vp, bp⟩ := hrel
        have hkwp : Kept [] w wp := keptTrans hkW hkp
        have ⟨LP, CP, FP⟩ := hkp.blk (by simp) B0
        by_cases hlt : j < i
        case neg =>
          obtain rfl : j = i := by omega
          go_wp2_with fail
          go_ret2
          exact ⟨.inr ⟨hE0.out, g, Fn, rfl, by rw [← meS_eq HO.out.sok]; simpa using vp.out, Nat.le_trans hWs hgW', by simp⟩, hkwp.toBelow⟩
        obtain ⟨b6, o6, Ai, ni, ci, rfl, hl6, hc6, hpi⟩ := HP.out.row hkwp.toBelow hlt
        have HPI := Lib.hid hpi
        clear hpi
        have hl6r : b6 < wp.heap.size := Nat.lt_of_lt_of_le hl6 hkwp.size
        have hj1 : (j : Int) < (i : Int) := by omega
        have HPVj := Lib.hid (HPV.out j hlt)
        go_wp2_with (go_at_call 23; refine (along_any A1 A2 A3 A4 Ai n1 c1 n2 c2 n3 c3 n4 c4 ni ci Fn mn ns es ls sd (ps j) _ (HG.out.kept hkwp).ed (HF.out.later hkwp.toBelow) (HS.out.later hkwp.toBelow) (HPI.out.later hkwp.toBelow) hn4 hc4 HO.out HPVj.out.1 HPVj.out.2).mono ?_; rintro e w4 ⟨g4, c4', rfl, hv4, hg4, hc4', hb4⟩; have V4 := Lib.hid hv4; clear hv4)
        have hkp4 : Kept [] wp w4 := (Kept.refl _ _).call hb4
        have hk4 : Kept [] W w4 := hkp.call hb4
        have vp4 := Lib.hid (vp.out.kept hkp4 (by simp))
        have bp4 := Lib.hid (hkp4.blk (by simp) bp.out)
        have hg4g : g4 ≠ g := by have := vp.out.lt; omega
        clear CP FP hc6
        go_loopw [66] (fun s wq => ∃ d : Nat, d ≤ Fn ∧ s = .int .i64 d ∧ Kept [] W wq ∧ Hid (Vals wq g Fn (fun x => if x < d then meS Xf.meetV Xf.apply es ls sd mn ps (j + 1) x else meS Xf.meetV Xf.apply es ls sd mn ps j x)) ∧ Hid (Blk wq hb [.slice (some ⟨g, 0, none⟩) Fn Fn]) ∧ Hid (Vals wq g4 Fn (runJ Xf.meetV Xf.apply es ls sd mn (ps j) (ps j).length))) (fun s _ => Fn - (intOf s).toNat)
        case atStart => exact ⟨0, Nat.zero_le _, rfl, hk4, Lib.hid (by simpa using vp4.out), bp4, V4⟩
        case round =>
          rename World => wq
          obtain ⟨d, hd, rfl, hkq, vq, bq, aq⟩ := hrel
          clear vp4 bp4 V4 vp bp
          by_cases hltd : d < Fn
          case neg =>
            obtain rfl : d = Fn := by omega
            have VE : Hid (Vals wq g d (meS Xf.meetV Xf.apply es ls sd mn ps (j + 1))) :=
              Lib.hid ⟨vq.out.lt, fun x hx => by have := vq.out.c0 x hx; simpa [hx] using this, fun x hx => by have := vq.out.c1 x hx; simpa [hx] using this, vq.out.fz⟩
            go_wp2_with fail
            exact ⟨⟨j + 1, by omega, by go_num, hkq, VE, bq⟩, by simp [intOf]; omega⟩
          obtain ⟨⟨zk, zn⟩, hz⟩ : ∃ z, runJ Xf.meetV Xf.apply es ls sd mn (ps j) (ps j).length d = z := ⟨_, rfl⟩
          have l0 := aq.out.c0 d hltd
          have l1 := aq.out.c1 d hltd
          rw [hz] at l0 l1
          have HZ := Lib.hid hz
          have hgl4 := aq.out.lt
          have hd1 : (d : Int) < (Fn : Int) := by omega
          clear hz
          go_upto_region 23 with fail
          refine wp_named (fun V => ∃ gb, wq.heap.size = gb ∧ Blk V gb [.int .i64 zk, .int .i64 zn] ∧ Kept [] wq V) ⟨_, rfl, Blk.new _ _ _ _ rfl, (Kept.refl _ _).alloc _⟩ ?_
          rintro V ⟨gb, eg, Bg, hkV⟩
          rw [eg]
          have ⟨LG, CG, FG⟩ := Bg
          have VV := Lib.hid (vq.out.kept hkV (by simp))
          have BV := Lib.hid (hkV.blk (by simp) bq.out)
          have AV := Lib.hid (aq.out.kept hkV (by simp))
          clear eg l0 l1
          have HON : Hid ((fun x => if x = d then Xf.meetV ((fun x => if x < d then meS Xf.meetV Xf.apply es ls sd mn ps (j + 1) x else meS Xf.meetV Xf.apply es ls sd mn ps j x) d) ⟨zk, zn⟩ else (fun x => if x < d then meS Xf.meetV Xf.apply es ls sd mn ps (j + 1) x else meS Xf.meetV Xf.apply es ls sd mn ps j x) x) = fun x => if x < d + 1 then meS Xf.meetV Xf.apply es ls sd mn ps (j + 1) x else meS Xf.meetV Xf.apply es ls sd mn ps j x) := by
            show _ = _
            funext x
            dsimp only
            by_cases hx : x = d
            · subst hx
              rw [if_pos rfl, if_neg (by omega), if_pos (by omega), meS, HZ.out]
            · rw [if_neg hx]
              by_cases hxd : x < d
              · rw [if_pos hxd, if_pos (by omega)]
              · rw [if_neg hxd, if_neg (by omega)]
          go_wp2_with (go_at_call 56; refine (fold_any g hb Fn Fn d zk zn _ _ VV.out BV.out hltd).mono ?_; rintro e w5 ⟨rfl, hv5, hk5⟩; have V5 := Lib.hid hv5; clear hv5)
          exact ⟨⟨d + 1, by omega, by go_num, kept_fresh (keptTrans hkq hkV) hk5 (by simpa using hgW'), Lib.hid (by rw [← HON.out]; exact V5.out), Lib.hid (hk5.blk (by simpa using hne) BV.out), Lib.hid (AV.out.kept hk5 (by simpa using hg4g))⟩, by simp [intOf]; omega⟩
end Go.Proofs.YtmjebjjhfoncfaaDoor
/- The contracts of the reference's end and fold. -/
namespace Go.Df
open Go.RowKit
/-- Nothing that was there has turned but the blocks of X; blocks a and b have not. -/
abbrev SXo (X : List Nat) (ga gb : Nat) (W w' : World) : Prop := Kept X W w' ∧ (∀ o, w'.cell? ⟨ga, o, none⟩ = W.cell? ⟨ga, o, none⟩) ∧ (∀ o, w'.cell? ⟨gb, o, none⟩ = W.cell? ⟨gb, o, none⟩)
theorem SXo.of {X : List Nat} {ga gb : Nat} {W w' : World} (h : Kept X W w') (ha : ga < W.heap.size) (hb : gb < W.heap.size) (xa : ga ∉ X) (xb : gb ∉ X) : SXo X ga gb W w' := ⟨h, fun o => h.cell ga o ha xa, fun o => h.cell gb o hb xb⟩
end Go.Df
namespace Go.Proofs.YtmjebjjhfoncfaaDoor
open Go.RowKit Go.Df
attribute [local go_sem ↓] Go.wp_at_zero Go.wp_at_succ
def endS (es : List Sp.Ed) : Int → List Int → Int
  | a, [] => a
  | _, k :: r => endS es (ge es k.toNat).b r
theorem runS_end {es : List Sp.Ed} : ∀ (path : List Int) {a : Int} {cs : List Int}, (Sp.runS es a cs path).1 = 0 → (Sp.runS es a cs path).2.1 = endS es a path
  | [], _, _, _ => rfl
  | k :: r, a, cs, h => by
    rw [Sp.runS] at h ⊢
    split at h
    · rename_i h0; exact absurd h h0
    · rename_i h0
      rw [if_neg h0]
      have h1 : (Sp.stepS es a cs k).1 = 0 := Decidable.byContradiction h0
      rw [runS_end r h, endS]
      congr 1
      unfold Sp.stepS at h1 ⊢
      split at h1
      · cases h1
      · rename_i x1
        rw [if_neg x1]
        split at h1
        · cases h1
        · rename_i x2
          rw [if_neg x2]
          split at h1
          · rename_i x3
            rw [if_pos x3]
            split at h1
            · cases h1
            · rename_i x4
              rw [if_neg x4]
          · rename_i x3
            rw [if_neg x3]
            split <;> rfl
theorem endS_last {es : List Sp.Ed} : ∀ (path : List Int) (a : Int), 0 < path.length → endS es a path = (ge es (gi path (path.length - 1)).toNat).b
  | [], _, h => absurd h (by simp)
  | [k], _, _ => rfl
  | k :: l :: r, a, _ => by
    rw [endS, endS_last (l :: r) _ (by simp)]
    simp [gi]
theorem follow_end {ns : List Sp.Nd} {es : List Sp.Ed} {mn : Int} {path : List Int} (h : (Sp.followS ns es mn mn path).1 = 0) : (Sp.followS ns es mn mn path).2.1 = endS es mn path := by
  unfold Sp.followS at h ⊢
  split at h
  · rename_i h0; exact absurd h h0
  · rename_i h0
    rw [if_neg h0]
    split at h
    · cases h
    · rename_i h1
      rw [if_neg h1]
      exact runS_end path h

set_option maxRecDepth 100000 in
set_option maxHeartbeats 4000000 in
theorem rend34_any (A1 A2 A5 : Option Addr) (n1 c1 n2 c2 n5 c5 : Nat) (mn : Int) (es : List Sp.Ed) (path : List Int) (w : World) (he : Eds w A2 n2 es) (hp : Ints w A5 n5 path) (hpi : ∀ j, j < path.length → 0 ≤ gi path j ∧ gi path j < es.length) (hpl : path.length ≤ 4096) (v : Int) (hv : endS es mn path = v) :
    Calls Tryd.prog 36 #[.agg #[.slice A1 n1 c1, .slice A2 n2 c2, .int .i64 mn], .slice A5 n5 c5] w fun e w' => e = .returned (.int .i64 v) ∧ Below w.heap.size w w' := by
  have HE := Lib.hid he
  have HP := Lib.hid hp
  have HN := Lib.hid hp.1
  have HPI := Lib.hid hpi
  have HV := Lib.hid hv
  have hn5 : n5 ≤ 4096 := by have := hp.1; omega
  clear he hp hpi hv hpl
  go_enter Tryd.func36, Tryd.ntmps36
  go_upto_region 1 with fail
  refine wp_named (fun W => ∃ b0, w.heap.size = b0 ∧ Blk W b0 [.slice A1 n1 c1, .slice A2 n2 c2, .int .i64 mn] ∧ Below w.heap.size w W) ⟨_, rfl, ?_, ?_⟩ ?_
  · exact Blk.new _ _ _ _ (by first | rfl | simp)
  · go_grown
  rintro W ⟨b0, e0, B0, hB⟩
  rw [e0]
  have G0 : w.heap.size ≤ b0 := by omega
  clear e0
  have ⟨L0, C0, F0⟩ := B0
  have hkW : Kept [] w W := (Kept.refl _ _).call hB
  by_cases h0 : n5 = 0
  · subst h0
    have hE : Hid (v = mn) := by
      show _ = _
      have : path = [] := List.eq_nil_of_length_eq_zero HN.out
      subst this
      rw [← HV.out]
      rfl
    go_wp2_with fail
    go_ret
    exact ⟨ret_int hE.out.symm, hB⟩
  have y1 : ((n5 : Int) == 0) = false := by simp; omega
  have y2 : (n5 == 0) = false := by simp; omega
  obtain ⟨b5, o5, rfl, hl5, hc5⟩ := HP.out.2 (by omega)
  have hpj := HPI.out (n5 - 1) (by rw [HN.out]; omega)
  obtain ⟨k, hk⟩ := Int.eq_ofNat_of_zero_le hpj.1
  have hk2 : k < n2 := by have := HE.out.1; omega
  obtain ⟨b2, o2, rfl, hl2, hc2e⟩ := HE.out.cell2 hB hk2
  have r5 : W.cell? ⟨b5, o5 + (n5 - 1), none⟩ = some (.int .i64 k) := by rw [← hk]; exact (hkW.cell b5 _ hl5 (by simp)).trans (hc5 (n5 - 1) (by omega))
  have hE : Hid ((ge es k).b = v) := by
    show _ = _
    rw [← HV.out, endS_last path mn (by rw [HN.out]; omega), HN.out, hk]
    rfl
  rw [hE.out] at hc2e
  have hl5r : b5 < W.heap.size := Nat.lt_of_lt_of_le hl5 hkW.size
  have hl2r : b2 < W.heap.size := Nat.lt_of_lt_of_le hl2 hkW.size
  have hk2' : (k : Int) < (n2 : Int) := by omega
  have w3 : IntKind.i64.wrap ((n5 : Int) - 1) = (n5 : Int) - 1 := IntWalk.i64_in _ (by omega)
  have w4 : (0 : Int) ≤ (n5 : Int) - 1 := by omega
  have w5 : ((n5 : Int) - 1).toNat = n5 - 1 := by omega
  have w7 : (n5 : Int) - 1 < (n5 : Int) := by omega
  have w9 : 1 ≤ n5 := by omega
  have w10 : (1 : Int) ≤ (n5 : Int) := by omega
  clear hk hpj hc5 h0
  go_upto_region 3 with fail
  go_quiet (fail)
  go_wp2_with fail
  go_ret
  exact ⟨rfl, (hkW.drewN _).toBelow⟩
/-- The cells of j values. -/
def vcells (f : Nat → Xf.V) : Nat → List Value
  | 0 => []
  | j + 1 => vcells f j ++ [.int .i64 (f j).k, .int .i64 (f j).n]
theorem vcells_len (f : Nat → Xf.V) : ∀ j, (vcells f j).length = j * 2
  | 0 => rfl
  | j + 1 => by rw [vcells, List.length_append, vcells_len f j]; simp; omega
theorem vcells_at (f : Nat → Xf.V) : ∀ (j : Nat) {i : Nat}, i < j → (vcells f j)[i * 2]? = some (.int .i64 (f i).k) ∧ (vcells f j)[i * 2 + 1]? = some (.int .i64 (f i).n)
  | 0, _, h => absurd h (by omega)
  | j + 1, i, h => by
    rw [vcells]
    rcases Nat.lt_or_ge i j with h9 | h9
    · rw [List.getElem?_append_left (by rw [vcells_len]; omega), List.getElem?_append_left (by rw [vcells_len]; omega)]
      exact vcells_at f j h9
    · obtain rfl : i = j := by omega
      rw [List.getElem?_append_right (by rw [vcells_len]; omega), List.getElem?_append_right (by rw [vcells_len]; omega), vcells_len]
      simp

set_option maxRecDepth 100000 in
set_option maxHeartbeats 8000000 in
theorem rfold_any (ga gb F ca cb : Nat) (fa fb : Nat → Xf.V) (w : World) (h1 : 1 ≤ F) (h2 : F ≤ 1024) (hva : Vals w ga F fa) (hvb : Vals w gb F fb) :
    Calls Tryd.prog 37 #[.slice (some ⟨ga, 0, none⟩) F ca, .slice (some ⟨gb, 0, none⟩) F cb] w fun e w' => ∃ g c, e = .returned (.slice (some ⟨g, 0, none⟩) F c) ∧ Vals w' g F (fun i => Xf.rmeetV (fa i) (fb i)) ∧ w.heap.size ≤ g ∧ F ≤ c ∧ Below w.heap.size w w' := by
  obtain ⟨i0, hi, hz0, hz1, hz2⟩ := info_parts val_info
  have HVA := Lib.hid hva
  have HVB := Lib.hid hvb
  have hla := hva.lt
  have hlb := hvb.lt
  clear hva hvb
  go_enter Tryd.func37, Tryd.ntmps37
  go_wp2_with fail
  go_loopw [5, 6] (fun s5 s6 wr => ∃ (j : Nat) (A : Option Addr) (c : Nat), j ≤ F ∧ s5 = .slice A j c ∧ s6 = .int .i64 j ∧ Kept [] w wr ∧ Hid (wr.ownsRow w.heap.size 52 2 (.slice A j c) j (vcells (fun i => Xf.rmeetV (fa i) (fb i)) j))) (fun _ i _ => F - (intOf i).toNat)
  case atStart => exact ⟨0, none, 0, Nat.zero_le _, rfl, rfl, Kept.refl _ _, Lib.hid (World.ownsRow_nil _ _ _ _)⟩
  case round =>
    obtain ⟨j, A, c, hj, rfl, rfl, hkr, own⟩ := hrel
    have hsz := hkr.size
    by_cases hlt : j < F
    · obtain ⟨⟨ak, an⟩, ha⟩ : ∃ a, fa j = a := ⟨_, rfl⟩
      obtain ⟨⟨bk, bn⟩, hb⟩ : ∃ a, fb j = a := ⟨_, rfl⟩
      have a0 := (hkr.cell ga _ hla (by simp)).trans (HVA.out.c0 j hlt)
      have a1 := (hkr.cell ga _ hla (by simp)).trans (HVA.out.c1 j hlt)
      have b0 := (hkr.cell gb _ hlb (by simp)).trans (HVB.out.c0 j hlt)
      have b1 := (hkr.cell gb _ hlb (by simp)).trans (HVB.out.c1 j hlt)
      rw [ha] at a0 a1
      rw [hb] at b0 b1
      have HAB : Hid (vcells (fun i => Xf.rmeetV (fa i) (fb i)) (j + 1) = vcells (fun i => Xf.rmeetV (fa i) (fb i)) j ++ [.int .i64 (Xf.rmeetV ⟨ak, an⟩ ⟨bk, bn⟩).k, .int .i64 (Xf.rmeetV ⟨ak, an⟩ ⟨bk, bn⟩).n]) := by
        show _ = _
        rw [vcells, ha, hb]
      have HX : Hid (∀ y ∈ (Value.slice A j c).ownBlock.toList, w.heap.size ≤ y) := (fun y hy => own_ge own.out (by simpa using hy))
      have xa : ga ∉ (Value.slice A j c).ownBlock.toList := fun hm => by have := HX.out ga hm; omega
      have xb : gb ∉ (Value.slice A j c).ownBlock.toList := fun hm => by have := HX.out gb hm; omega
      have hga : ga < wr.heap.size := by omega
      have hgb : gb < wr.heap.size := by omega
      have hj1 : (j : Int) < (F : Int) := by omega
      clear ha hb
      go_upto_region 5 with fail
      refine wp_region_E 12 (fun w' => SXo (Value.slice A j c).ownBlock.toList ga gb wr w') (by kernel_rfl) (by (first | (with_reducible assumption) | exact SXo.of (Kept.refl _ _).drew hga hgb xa xb | exact SXo.of (hHeld.1.call (by assumption)) hga hgb xa xb | exact SXo.of (hHeld.1.alloc _) hga hgb xa xb | exact SXo.of (hHeld.1.next (by assumption) (fun y hy => Or.inl hy)) hga hgb xa xb)) (fun hHeld => ?_)
      refine WE_take 0 (v := ?_) rfl (by kernel_rfl) (fun _ _ _ h => h) (Or.inl ⟨by rfl, ?_⟩) (by assumption) ?_; rotate_left; (· intro w9 hSw; (try dsimp only at hSw); go_simp; try with_reducible rfl); (try simp only [Act.put, List.setIfInBounds_toArray, List.set_cons_zero, List.set_cons_succ])
      refine WE_take 1 (v := ?_) rfl (by kernel_rfl) (fun _ _ _ h => h) (Or.inl ⟨by rfl, ?_⟩) (by assumption) ?_; rotate_left; (· intro w9 hSw; (try dsimp only at hSw); go_simp; try with_reducible rfl); (try simp only [Act.put, List.setIfInBounds_toArray, List.set_cons_zero, List.set_cons_succ])
      refine WE_take 2 (v := ?_) rfl (by kernel_rfl) (fun _ _ _ h => h) (Or.inl ⟨by rfl, ?_⟩) (by assumption) ?_; rotate_left; (· intro w9 hSw; (try dsimp only at hSw); go_simp; try with_reducible rfl); (try simp only [Act.put, List.setIfInBounds_toArray, List.set_cons_zero, List.set_cons_succ])
      refine WE_take 3 (v := ?_) rfl (by kernel_rfl) (fun _ _ _ h => h) (Or.inl ⟨by rfl, ?_⟩) (by assumption) ?_; rotate_left; (· intro w9 hSw; (try dsimp only at hSw); go_simp; try with_reducible rfl); (try simp only [Act.put, List.setIfInBounds_toArray, List.set_cons_zero, List.set_cons_succ])
      refine WE_take 4 (v := ?_) rfl (by kernel_rfl) (fun _ _ _ h => h) (Or.inl ⟨by rfl, ?_⟩) (by assumption) ?_; rotate_left; (· intro w9 hSw; (try dsimp only at hSw); go_simp; try with_reducible rfl); (try simp only [Act.put, List.setIfInBounds_toArray, List.set_cons_zero, List.set_cons_succ])
      refine WE_take 5 (v := ?_) rfl (by kernel_rfl) (fun _ _ _ h => h) (Or.inl ⟨by rfl, ?_⟩) (by assumption) ?_; rotate_left; (· intro w9 hSw; (try dsimp only at hSw); go_simp; try with_reducible rfl); (try simp only [Act.put, List.setIfInBounds_toArray, List.set_cons_zero, List.set_cons_succ])
      refine WE_take 6 (v := ?_) rfl (by kernel_rfl) (fun _ _ _ h => h) (Or.inl ⟨by rfl, ?_⟩) (by assumption) ?_; rotate_left; (· intro w9 hSw; (try dsimp only at hSw); go_simp; try with_reducible rfl); (try simp only [Act.put, List.setIfInBounds_toArray, List.set_cons_zero, List.set_cons_succ])
      refine WE_take 7 (v := ?_) rfl (by kernel_rfl) (fun _ _ _ h => h) (Or.inl ⟨by rfl, ?_⟩) (by assumption) ?_; rotate_left; (· intro w9 hSw; (try dsimp only at hSw); go_simp; try with_reducible rfl); (try simp only [Act.put, List.setIfInBounds_toArray, List.set_cons_zero, List.set_cons_succ])
      refine WE_take 8 (v := ?_) rfl (by kernel_rfl) (fun _ _ _ h => h) (Or.inl ⟨by rfl, ?_⟩) (by assumption) ?_; rotate_left; (· intro w9 hSw; (try dsimp only at hSw); go_simp; try with_reducible rfl); (try simp only [Act.put, List.setIfInBounds_toArray, List.set_cons_zero, List.set_cons_succ])
      refine WE_step 9 rfl (by kernel_rfl) (fun K hK => ?_)
      go_simp
      (go_at_call 58; refine (rmeetV_any ak an bk bn _).mono ?_; rintro e w5 ⟨rfl, hb5⟩; have hk5 := Lib.hid (((Kept.refl [] wr).drew).call hb5))
      (try go_wp2_with fail)
      refine hK.out _ _ ?_ (fun hHeld => ?_)
      · (first | (with_reducible assumption) | exact SXo.of (Kept.refl _ _).drew hga hgb xa xb | exact SXo.of (hHeld.1.call (by assumption)) hga hgb xa xb | exact SXo.of (hHeld.1.alloc _) hga hgb xa xb | exact SXo.of (hHeld.1.next (by assumption) (fun y hy => Or.inl hy)) hga hgb xa xb)
      clear hK K
      try simp only [Act.put, List.setIfInBounds_toArray, List.set_cons_zero, List.set_cons_succ]
      refine WE_step 10 rfl (by kernel_rfl) (fun K hK => ?_)
      go_simp
      refine hK.out _ _ ?_ (fun hHeld => ?_)
      · (first | (with_reducible assumption) | exact SXo.of (Kept.refl _ _).drew hga hgb xa xb | exact SXo.of (hHeld.1.call (by assumption)) hga hgb xa xb | exact SXo.of (hHeld.1.alloc _) hga hgb xa xb | exact SXo.of (hHeld.1.next (by assumption) (fun y hy => Or.inl hy)) hga hgb xa xb)
      clear hK K
      try simp only [Act.put, List.setIfInBounds_toArray, List.set_cons_zero, List.set_cons_succ]
      refine WE_step 11 rfl (by kernel_rfl) (fun K hK => ?_)
      (refine step_append_rd _ rfl _ _ 32 rfl w.heap.size 52 i0 (.agg #[.int .i64 0, .int .i64 0]) 2 16 Tryd.underlying32 hi hz0 hz1 hz2 rfl (by decide) (.slice A j c) j _ rfl (own_keptK (X := []) own.out (hk5.out.alloc _) (by simp)) (some ⟨w5.heap.size, 0, none⟩) 1 1 [.int .i64 (Xf.rmeetV ⟨ak, an⟩ ⟨bk, bn⟩).k, .int .i64 (Xf.rmeetV ⟨ak, an⟩ ⟨bk, bn⟩).n] rfl (Rd.new2 _ _ _ _ _ rfl) (fun h => by cases h) (by intro u hu; simp at hu; rcases hu with rfl | rfl <;> rfl) (j + 1) rfl _ HAB.out.symm (by unfold maxLen; omega) (by omega) (by have := hk5.out.size; simp; omega) ?_; intro A9 c9 w4 hown4 hk4 hat4)
      refine hK.out _ _ ?_ (fun hHeld => ?_)
      · (first | (with_reducible assumption) | exact SXo.of (Kept.refl _ _).drew hga hgb xa xb | exact SXo.of (hHeld.1.call (by assumption)) hga hgb xa xb | exact SXo.of (hHeld.1.alloc _) hga hgb xa xb | exact SXo.of (hHeld.1.next (by assumption) (fun y hy => Or.inl hy)) hga hgb xa xb)
      clear hK K
      try simp only [Act.put, List.setIfInBounds_toArray, List.set_cons_zero, List.set_cons_succ]
      refine WE_last rfl (by kernel_rfl) (fun K hK => ?_)
      go_simp
      refine hK.out _ _ ?_
      clear hK K
      have HO4 := Lib.hid hown4
      have hkw4 : Kept [] w w4 := kept_fresh hkr hHeld.1 HX.out
      clear hown4 hk4 hat4
      go_wp2_with fail
      exact ⟨⟨j + 1, A9, c9, by omega, rfl, by go_num, hkw4, HO4⟩, by simp [intOf]; omega⟩
    · obtain rfl : j = F := by omega
      obtain ⟨g, c', hv, hb, hg, hc, -, hcell, hfz⟩ := own_cells own.out (by omega)
      injection hv with e1 e2 e3
      subst e1
      subst e3
      have HV : Hid (Vals wr g j (fun i => Xf.rmeetV (fa i) (fb i))) := Lib.hid ⟨hg, fun i hi => by rw [hcell _ (by omega)]; exact (vcells_at _ j hi).1, fun i hi => by rw [hcell _ (by omega)]; exact (vcells_at _ j hi).2, hfz⟩
      clear hcell hfz hlt
      go_wp2_with fail
      go_ret
      exact ⟨g, c, rfl, HV.out, hb, hc, hkr.toBelow⟩
end Go.Proofs.YtmjebjjhfoncfaaDoor
/- The contract of the reference's Meet. -/
namespace Go.Proofs.YtmjebjjhfoncfaaDoor
open Go.RowKit Go.Df
attribute [local go_sem ↓] Go.wp_at_zero Go.wp_at_succ

set_option maxRecDepth 100000 in
set_option maxHeartbeats 40000000 in
theorem rMeet_any (A1 A2 A3 A4 A6 : Option Addr) (n1 c1 n2 c2 n3 c3 n4 c4 n6 c6 : Nat) (mn F : Int) (ns : List Sp.Nd) (es : List Sp.Ed) (ls : List (List Sp.Xp)) (sd : List Sp.Vs) (ps : Nat → List Int) (w : World) (hg : Gr w A1 n1 A2 n2 ns es) (hf : Fls w A3 n3 ls) (hs : Vss w A4 n4 sd) (hp : Pths w A6 n6 ps) (hn6 : n6 ≤ 6) (hn4 : n4 ≤ 9223372036854775806)
    (er : Int) (her : meErr ns es mn F ls sd n6 ps = er) :
    Calls Tryd.prog 19 #[.agg #[.slice A1 n1 c1, .slice A2 n2 c2, .int .i64 mn, .int .i64 F, .slice A3 n3 c3, .slice A4 n4 c4], .slice A6 n6 c6] w fun e w' =>
      ((er ≠ 0 ∧ e = .returned (.tuple #[.slice none 0 0, .int .i64 er])) ∨ (er = 0 ∧ ∃ g c, e = .returned (.tuple #[.slice (some ⟨g, 0, none⟩) F.toNat c, .int .i64 0]) ∧ Vals w' g F.toNat (meS Xf.rmeetV Xf.rapply es ls sd mn ps n6) ∧ w.heap.size ≤ g ∧ F.toNat ≤ c)) ∧ Below w.heap.size w w' := by
  have HG := Lib.hid hg
  have HF := Lib.hid hf
  have HS := Lib.hid hs
  have HP := Lib.hid hp
  have HER := Lib.hid her
  clear hg hf hs hp her
  go_enter Tryd.func19, Tryd.ntmps19
  go_upto_region 1 with fail
  refine wp_named (fun W => ∃ b0, w.heap.size = b0 ∧ Blk W b0 [.slice A1 n1 c1, .slice A2 n2 c2, .int .i64 mn, .int .i64 F, .slice A3 n3 c3, .slice A4 n4 c4] ∧ Below w.heap.size w W) ⟨_, rfl, ?_, ?_⟩ ?_
  · exact Blk.new _ _ _ _ (by first | rfl | simp)
  · go_grown
  rintro W ⟨b0, e0, B0, hB⟩
  rw [e0]
  have G0 : w.heap.size ≤ b0 := by omega
  clear e0
  have ⟨L0, C0, F0⟩ := B0
  have hkW : Kept [] w W := (Kept.refl _ _).call hB
  have hWs := hkW.size
  obtain ⟨ie, hie⟩ : ∃ ie, Sp.ideErr ns es mn F ls sd = ie := ⟨_, rfl⟩
  have HIE := Lib.hid hie
  clear hie
  go_upto_region 2 with (go_at_call 16; refine (rideck_any A1 A2 A3 A4 n1 c1 n2 c2 n3 c3 n4 c4 mn F ns es ls sd _ (HG.out.nd.later hB) (HG.out.ed.later hB) (HF.out.later hB) (HS.out.later hB) (by omega)).mono ?_; rw [HIE.out]; rintro e w1 ⟨rfl, hb1⟩)
  have hk1 : Kept [] W w1 := (Kept.refl _ _).call hb1
  have hkw1 : Kept [] w w1 := keptTrans hkW hk1
  have ⟨L1, C1, F1⟩ := hk1.blk (by simp) B0
  clear C0 F0
  by_cases h0 : ie = 0
  case neg =>
    have h0' : (ie != 0) = true := by simpa using h0
    have hE : Hid (er = ie) := by show _ = _; rw [← HER.out]; unfold meErr; rw [HIE.out, if_pos h0]
    have h0n : Hid (er ≠ 0) := by show _ ≠ _; rw [hE.out]; exact h0
    clear h0
    go_wp2_with fail
    go_ret2
    exact ⟨.inl ⟨h0n.out, by rw [hE.out]; rfl⟩, hkw1.toBelow⟩
  subst h0
  have hE : Hid (er = Sp.fe (pthErr ns es mn ps) 0 n6) := by show _ = _; rw [← HER.out]; unfold meErr; rw [HIE.out, if_neg (by simp)]
  have hok := ide_parts HIE.out
  obtain ⟨Fn, rfl⟩ := Int.eq_ofNat_of_zero_le (show 0 ≤ F by have := hok.f1; omega)
  have hFn1 : 1 ≤ Fn := by have := hok.f1; omega
  have hFn2 : Fn ≤ 1024 := by have := hok.f2; omega
  have HO := Lib.hid hok
  clear hok
  obtain ⟨en0, hen0⟩ : ∃ x, endS es mn (ps 0) = x := ⟨_, rfl⟩
  have HEN0 := Lib.hid hen0
  clear hen0
  go_upto_region 5 with (go_at_call 35; refine (tops_any Fn _ hFn1 hFn2).mono ?_; rintro e w2 ⟨g, c, rfl, hv2, hg2, hc2, hb2⟩)
  have hk2 : Kept [] W w2 := hk1.call hb2
  have V2 := Lib.hid hv2
  have hgw : w.heap.size ≤ g := Nat.le_trans hkw1.size hg2
  clear hv2 C1 F1
  go_wp2_with fail
  go_loopw [7, 8] (fun s7 s8 wr => ∃ (i g c : Nat), i ≤ n6 ∧ s8 = .int .i64 i ∧ s7 = .slice (some ⟨g, 0, none⟩) Fn c ∧ Kept [] W wr ∧ Hid (Vals wr g Fn (meS Xf.rmeetV Xf.rapply es ls sd mn ps i)) ∧ w.heap.size ≤ g ∧ Fn ≤ c ∧ Hid (∀ x, x < i → pthErr ns es mn ps x = 0)) (fun _ s _ => n6 - (intOf s).toNat)
  case atStart => exact ⟨0, g, c, Nat.zero_le _, rfl, rfl, hk2, V2, hgw, hc2, Lib.hid (fun x hx => absurd hx (by omega))⟩
  case round =>
    clear V2 hgw hc2 hg2 hb2 hk2
    obtain ⟨i, gr, cr, hi, rfl, rfl, hkr, vr, hgr, hcr, hall⟩ := hrel
    have hkwr : Kept [] w wr := keptTrans hkW hkr
    have ⟨LR, CR, FR⟩ := hkr.blk (by simp) B0
    by_cases hlt : i < n6
    case neg =>
      obtain rfl : i = n6 := by omega
      have hE0 : Hid (er = 0) := by show _ = _; rw [hE.out]; exact Sp.fe_ok _ 0 (fun x _ hx => hall.out x (by omega))
      go_wp2_with fail
      go_ret2
      exact ⟨.inr ⟨hE0.out, gr, cr, rfl, by simpa using vr.out, hgr, by simpa using hcr⟩, hkwr.toBelow⟩
    obtain ⟨b6, o6, Ai, ni, ci, rfl, hl6, hc6, hpi⟩ := HP.out.row hkwr.toBelow hlt
    have HPI := Lib.hid hpi
    clear hpi
    have hl6r : b6 < wr.heap.size := Nat.lt_of_lt_of_le hl6 hkwr.size
    have hi1 : (i : Int) < (n6 : Int) := by omega
    obtain ⟨fe, fa, fc, hfe⟩ : ∃ a b c, Sp.followS ns es mn mn (ps i) = (a, b, c) := ⟨_, _, _, rfl⟩
    have HFE := Lib.hid hfe
    clear hfe
    have hbad : Hid (∀ e, pthErr ns es mn ps i = e → e ≠ 0 → er = e) := fun e h1 h2 => by rw [hE.out]; exact Sp.fe_hit hall.out hlt h1 h2
    go_upto_region 8 with fail
    refine wp_region_E 10 (fun w' => SX0 wr w') (by kernel_rfl) (by (repeat' first | (with_reducible assumption) | (with_reducible exact SX0.init _) | (with_reducible exact SX0.refl _) | (with_reducible refine SX0.alloc ?_ _) | (with_reducible refine SX0.call ?_ (by assumption)) | (with_reducible refine SX0.set ?_ _ _ _ ?_) | (with_reducible refine SX0.drew ?_) | (simp; done) | omega | (simp; omega))) (fun hHeld => ?_)
    refine WE_take 0 (v := ?_) rfl (by kernel_rfl) (fun _ _ _ h => h) (Or.inl ⟨by rfl, ?_⟩) (by assumption) ?_; rotate_left; (· intro w9 hSw; (try dsimp only at hSw); go_simp; try with_reducible rfl); (try simp only [Act.put, List.setIfInBounds_toArray, List.set_cons_zero, List.set_cons_succ])
    refine WE_take 1 (v := ?_) rfl (by kernel_rfl) (fun _ _ _ h => h) (Or.inl ⟨by rfl, ?_⟩) (by assumption) ?_; rotate_left; (· intro w9 hSw; (try dsimp only at hSw); go_simp; try with_reducible rfl); (try simp only [Act.put, List.setIfInBounds_toArray, List.set_cons_zero, List.set_cons_succ])
    refine WE_take 2 (v := ?_) rfl (by kernel_rfl) (fun _ _ _ h => h) (Or.inl ⟨by rfl, ?_⟩) (by assumption) ?_; rotate_left; (· intro w9 hSw; (try dsimp only at hSw); go_simp; try with_reducible rfl); (try simp only [Act.put, List.setIfInBounds_toArray, List.set_cons_zero, List.set_cons_succ])
    refine WE_take 3 (v := ?_) rfl (by kernel_rfl) (fun _ _ _ h => h) (Or.inl ⟨by rfl, ?_⟩) (by assumption) ?_; rotate_left; (· intro w9 hSw; (try dsimp only at hSw); go_simp; try with_reducible rfl); (try simp only [Act.put, List.setIfInBounds_toArray, List.set_cons_zero, List.set_cons_succ])
    refine WE_take 4 (v := ?_) rfl (by kernel_rfl) (fun _ _ _ h => h) (Or.inl ⟨by rfl, ?_⟩) (by assumption) ?_; rotate_left; (· intro w9 hSw; (try dsimp only at hSw); go_simp; try with_reducible rfl); (try simp only [Act.put, List.setIfInBounds_toArray, List.set_cons_zero, List.set_cons_succ])
    refine WE_take 5 (v := ?_) rfl (by kernel_rfl) (fun _ _ _ h => h) (Or.inl ⟨by rfl, ?_⟩) (by assumption) ?_; rotate_left; (· intro w9 hSw; (try dsimp only at hSw); go_simp; try with_reducible rfl); (try simp only [Act.put, List.setIfInBounds_toArray, List.set_cons_zero, List.set_cons_succ])
    refine WE_take 6 (v := ?_) rfl (by kernel_rfl) (fun _ _ _ h => h) (Or.inl ⟨by rfl, ?_⟩) (by assumption) ?_; rotate_left; (· intro w9 hSw; (try dsimp only at hSw); go_simp; try with_reducible rfl); (try simp only [Act.put, List.setIfInBounds_toArray, List.set_cons_zero, List.set_cons_succ])
    refine WE_take 7 (v := ?_) rfl (by kernel_rfl) (fun _ _ _ h => h) (Or.inl ⟨by rfl, ?_⟩) (by assumption) ?_; rotate_left; (· intro w9 hSw; (try dsimp only at hSw); go_simp; try with_reducible rfl); (try simp only [Act.put, List.setIfInBounds_toArray, List.set_cons_zero, List.set_cons_succ])
    refine WE_take 8 (v := ?_) rfl (by kernel_rfl) (fun _ _ _ h => h) (Or.inl ⟨by rfl, ?_⟩) (by assumption) ?_; rotate_left; (· intro w9 hSw; (try dsimp only at hSw); go_simp; try with_reducible rfl); (try simp only [Act.put, List.setIfInBounds_toArray, List.set_cons_zero, List.set_cons_succ])
    refine WE_step 9 rfl (by kernel_rfl) (fun K hK => ?_)
    go_simp
    (go_at_call 17; refine (rcheck_any A1 A2 Ai n1 c1 n2 c2 ni ci mn mn ns es (ps i) _ (HG.out.kept hkwr.drew) (HPI.out.later (hkwr.drew).toBelow) fe fa fc HFE.out).mono ?_; rintro e w3 ⟨rfl, hb3⟩)
    (try go_wp2_with fail)
    refine hK.out _ _ ?_ (fun hHeld => ?_)
    · (repeat' first | (with_reducible assumption) | (with_reducible exact SX0.init _) | (with_reducible exact SX0.refl _) | (with_reducible refine SX0.alloc ?_ _) | (with_reducible refine SX0.call ?_ (by assumption)) | (with_reducible refine SX0.set ?_ _ _ _ ?_) | (with_reducible refine SX0.drew ?_) | (simp; done) | omega | (simp; omega))
    clear hK K
    try simp only [Act.put, List.setIfInBounds_toArray, List.set_cons_zero, List.set_cons_succ]
    refine WE_last rfl (by kernel_rfl) (fun K hK => ?_)
    go_simp
    refine hK.out _ _ ?_
    clear hK K
    have hk3 : Kept [] wr w3 := hHeld.1
    have hkW3 : Kept [] W w3 := keptTrans hkr hk3
    have hkw3 : Kept [] w w3 := keptTrans hkwr hk3
    have ⟨L3, C3, F3⟩ := hkW3.blk (by simp) B0
    have r6 : w3.cell? ⟨b6, o6 + i, none⟩ = some (.slice Ai ni ci) := (hk3.cell b6 _ hl6r (by simp)).trans hc6
    have V3 := Lib.hid (vr.out.kept hk3 (by simp))
    have hl63 : b6 < w3.heap.size := Nat.lt_of_lt_of_le hl6r hk3.size
    clear CR FR hc6 hHeld vr
    by_cases h0 : fe = 0
    case neg =>
      have h0' : (fe != 0) = true := by simpa using h0
      have hX : Hid (er = fe) := hbad.out fe (by unfold pthErr; rw [HFE.out, if_pos h0]) h0
      have h0n : Hid (er ≠ 0) := by show _ ≠ _; rw [hX.out]; exact h0
      clear h0
      go_wp2_with fail
      go_ret2
      exact ⟨.inl ⟨h0n.out, by rw [hX.out]; rfl⟩, hkw3.toBelow⟩
    subst h0
    have HPV : Hid ((ps i).length ≤ 4096 ∧ ∀ j, j < (ps i).length → 0 ≤ gi (ps i) j ∧ gi (ps i) j < es.length) := Lib.hid (follow_in (ns := ns) (mn := mn) (fr := mn) (by rw [HFE.out]))
    have HP0 : Hid ((ps 0).length ≤ 4096 ∧ ∀ j, j < (ps 0).length → 0 ≤ gi (ps 0) j ∧ gi (ps 0) j < es.length) := by
      rcases Nat.eq_zero_or_pos i with h9 | h9
      · subst h9; exact HPV
      · have h8 := hall.out 0 h9
        unfold pthErr at h8
        split at h8
        · rename_i h7; exact absurd h8 h7
        · rename_i h7
          exact Lib.hid (follow_in (ns := ns) (mn := mn) (fr := mn) (Decidable.byContradiction h7))
    have HF0 : Hid ((Sp.followS ns es mn mn (ps 0)).2.1 = en0) := by
      show _ = _
      rw [← HEN0.out]
      refine follow_end ?_
      rcases Nat.eq_zero_or_pos i with h9 | h9
      · subst h9; rw [HFE.out]
      · have h8 := hall.out 0 h9
        unfold pthErr at h8
        split at h8
        · rename_i h7; exact absurd h8 h7
        · rename_i h7
          exact Decidable.byContradiction h7
    obtain rfl : endS es mn (ps i) = fa := by
      rw [← follow_end (ns := ns) (by rw [HFE.out]), HFE.out]
    obtain ⟨fa, hfa⟩ : ∃ fa, endS es mn (ps i) = fa := ⟨_, rfl⟩
    rw [hfa] at HFE
    have HFA := Lib.hid hfa
    clear hfa
    obtain ⟨b0', o0', A0, n0, c0, e0, hl0, hc0, hp0⟩ := HP.out.row hkw3.toBelow (show 0 < n6 by omega)
    injection e0 with e0
    injection e0 with e0 e0'
    subst e0 e0'
    rw [Nat.add_zero] at hc0
    have HPI0 := Lib.hid hp0
    have hn60 : (0 : Int) < (n6 : Int) := by omega
    have hn60' : 0 < n6 := by omega
    clear hp0 hl0
    have hEnds : Hid ((if fa ≠ en0 then (20 : Int) else 0) = pthErr ns es mn ps i) := by
      show _ = _
      symm
      unfold pthErr
      rw [HFE.out, if_neg (by simp), HF0.out]
    by_cases hm : fa = en0
    case neg =>
      have hm' : (fa != en0) = true := by simpa using hm
      have hX : Hid (er = 20) := hbad.out 20 (by rw [← hEnds.out, if_pos hm]) (by omega)
      have h0n : Hid (er ≠ 0) := by show _ ≠ _; rw [hX.out]; omega
      clear hm
      go_upto_region 11 with fail
      refine wp_region_E 13 (fun w' => SX0 w3 w') (by kernel_rfl) (by (repeat' first | (with_reducible assumption) | (with_reducible exact SX0.init _) | (with_reducible exact SX0.refl _) | (with_reducible refine SX0.alloc ?_ _) | (with_reducible refine SX0.call ?_ (by assumption)) | (with_reducible refine SX0.set ?_ _ _ _ ?_) | (with_reducible refine SX0.drew ?_) | (simp; done) | omega | (simp; omega))) (fun hHeld => ?_)
      refine WE_take 0 (v := ?_) rfl (by kernel_rfl) (fun _ _ _ h => h) (Or.inl ⟨by rfl, ?_⟩) (by assumption) ?_; rotate_left; (· intro w9 hSw; (try dsimp only at hSw); go_simp; try with_reducible rfl); (try simp only [Act.put, List.setIfInBounds_toArray, List.set_cons_zero, List.set_cons_succ])
      refine WE_take 1 (v := ?_) rfl (by kernel_rfl) (fun _ _ _ h => h) (Or.inl ⟨by rfl, ?_⟩) (by assumption) ?_; rotate_left; (· intro w9 hSw; (try dsimp only at hSw); go_simp; try with_reducible rfl); (try simp only [Act.put, List.setIfInBounds_toArray, List.set_cons_zero, List.set_cons_succ])
      refine WE_take 2 (v := ?_) rfl (by kernel_rfl) (fun _ _ _ h => h) (Or.inl ⟨by rfl, ?_⟩) (by assumption) ?_; rotate_left; (· intro w9 hSw; (try dsimp only at hSw); go_simp; try with_reducible rfl); (try simp only [Act.put, List.setIfInBounds_toArray, List.set_cons_zero, List.set_cons_succ])
      refine WE_take 3 (v := ?_) rfl (by kernel_rfl) (fun _ _ _ h => h) (Or.inl ⟨by rfl, ?_⟩) (by assumption) ?_; rotate_left; (· intro w9 hSw; (try dsimp only at hSw); go_simp; try with_reducible rfl); (try simp only [Act.put, List.setIfInBounds_toArray, List.set_cons_zero, List.set_cons_succ])
      refine WE_take 4 (v := ?_) rfl (by kernel_rfl) (fun _ _ _ h => h) (Or.inl ⟨by rfl, ?_⟩) (by assumption) ?_; rotate_left; (· intro w9 hSw; (try dsimp only at hSw); go_simp; try with_reducible rfl); (try simp only [Act.put, List.setIfInBounds_toArray, List.set_cons_zero, List.set_cons_succ])
      refine WE_take 5 (v := ?_) rfl (by kernel_rfl) (fun _ _ _ h => h) (Or.inl ⟨by rfl, ?_⟩) (by assumption) ?_; rotate_left; (· intro w9 hSw; (try dsimp only at hSw); go_simp; try with_reducible rfl); (try simp only [Act.put, List.setIfInBounds_toArray, List.set_cons_zero, List.set_cons_succ])
      refine WE_take 7 (v := ?_) rfl (by kernel_rfl) (fun _ _ _ h => h) (Or.inl ⟨by rfl, ?_⟩) (by assumption) ?_; rotate_left; (· intro w9 hSw; (try dsimp only at hSw); go_simp; try with_reducible rfl); (try simp only [Act.put, List.setIfInBounds_toArray, List.set_cons_zero, List.set_cons_succ])
      refine WE_take 8 (v := ?_) rfl (by kernel_rfl) (fun _ _ _ h => h) (Or.inl ⟨by rfl, ?_⟩) (by assumption) ?_; rotate_left; (· intro w9 hSw; (try dsimp only at hSw); go_simp; try with_reducible rfl); (try simp only [Act.put, List.setIfInBounds_toArray, List.set_cons_zero, List.set_cons_succ])
      refine WE_take 9 (v := ?_) rfl (by kernel_rfl) (fun _ _ _ h => h) (Or.inl ⟨by rfl, ?_⟩) (by assumption) ?_; rotate_left; (· intro w9 hSw; (try dsimp only at hSw); go_simp; try with_reducible rfl); (try simp only [Act.put, List.setIfInBounds_toArray, List.set_cons_zero, List.set_cons_succ])
      refine WE_take 10 (v := ?_) rfl (by kernel_rfl) (fun _ _ _ h => h) (Or.inl ⟨by rfl, ?_⟩) (by assumption) ?_; rotate_left; (· intro w9 hSw; (try dsimp only at hSw); go_simp; try with_reducible rfl); (try simp only [Act.put, List.setIfInBounds_toArray, List.set_cons_zero, List.set_cons_succ])
      refine WE_take 11 (v := ?_) rfl (by kernel_rfl) (fun _ _ _ h => h) (Or.inl ⟨by rfl, ?_⟩) (by assumption) ?_; rotate_left; (· intro w9 hSw; (try dsimp only at hSw); go_simp; try with_reducible rfl); (try simp only [Act.put, List.setIfInBounds_toArray, List.set_cons_zero, List.set_cons_succ])
      refine WE_step 6 rfl (by kernel_rfl) (fun K hK => ?_)
      go_simp
      (first | (go_at_call 36; with_reducible refine (rend34_any A1 A2 Ai n1 c1 n2 c2 ni ci mn es (ps i) _ (HG.out.kept hkw3.drew).ed (HPI.out.later (hkw3.drew).toBelow) HPV.out.2 HPV.out.1 fa HFA.out).mono ?_; rintro e w4 ⟨rfl, hb4⟩; have HK4 := Lib.hid ((hkw3.drew).call hb4)) | (go_at_call 36; refine (rend34_any A1 A2 A0 n1 c1 n2 c2 n0 c0 mn es (ps 0) _ (HG.out.kept HK4.out).ed (HPI0.out.later HK4.out.toBelow) HP0.out.2 HP0.out.1 en0 HEN0.out).mono ?_; rintro e w5 ⟨rfl, hb5⟩))
      (try go_wp2_with fail)
      refine hK.out _ _ ?_ (fun hHeld => ?_)
      · (repeat' first | (with_reducible assumption) | (with_reducible exact SX0.init _) | (with_reducible exact SX0.refl _) | (with_reducible refine SX0.alloc ?_ _) | (with_reducible refine SX0.call ?_ (by assumption)) | (with_reducible refine SX0.set ?_ _ _ _ ?_) | (with_reducible refine SX0.drew ?_) | (simp; done) | omega | (simp; omega))
      clear hK K
      try simp only [Act.put, List.setIfInBounds_toArray, List.set_cons_zero, List.set_cons_succ]
      refine WE_step 12 rfl (by kernel_rfl) (fun K hK => ?_)
      go_simp
      (first | (go_at_call 36; with_reducible refine (rend34_any A1 A2 Ai n1 c1 n2 c2 ni ci mn es (ps i) _ (HG.out.kept hkw3.drew).ed (HPI.out.later (hkw3.drew).toBelow) HPV.out.2 HPV.out.1 fa HFA.out).mono ?_; rintro e w4 ⟨rfl, hb4⟩; have HK4 := Lib.hid ((hkw3.drew).call hb4)) | (go_at_call 36; refine (rend34_any A1 A2 A0 n1 c1 n2 c2 n0 c0 mn es (ps 0) _ (HG.out.kept HK4.out).ed (HPI0.out.later HK4.out.toBelow) HP0.out.2 HP0.out.1 en0 HEN0.out).mono ?_; rintro e w5 ⟨rfl, hb5⟩))
      (try go_wp2_with fail)
      refine hK.out _ _ ?_ (fun hHeld => ?_)
      · (repeat' first | (with_reducible assumption) | (with_reducible exact SX0.init _) | (with_reducible exact SX0.refl _) | (with_reducible refine SX0.alloc ?_ _) | (with_reducible refine SX0.call ?_ (by assumption)) | (with_reducible refine SX0.set ?_ _ _ _ ?_) | (with_reducible refine SX0.drew ?_) | (simp; done) | omega | (simp; omega))
      clear hK K
      try simp only [Act.put, List.setIfInBounds_toArray, List.set_cons_zero, List.set_cons_succ]
      refine WE_last rfl (by kernel_rfl) (fun K hK => ?_)
      go_simp
      refine hK.out _ _ ?_
      clear hK K
      have hk5 : Kept [] w3 w5 := hHeld.1
      go_wp2_with fail
      go_ret2
      exact ⟨.inl ⟨h0n.out, by rw [hX.out]; rfl⟩, (keptTrans hkw3 hk5).toBelow⟩
    have hm' : (fa != en0) = false := by simpa using hm
    have hfin : Hid (∀ x, x < i + 1 → pthErr ns es mn ps x = 0) := fun x hx => by
      rcases Nat.lt_or_ge x i with h9 | h9
      · exact hall.out x h9
      · obtain rfl : x = i := by omega
        rw [← hEnds.out, if_neg (not_not_intro hm)]
    clear hm
    go_upto_region 11 with fail
    refine wp_region_E 13 (fun w' => SX0 w3 w') (by kernel_rfl) (by (repeat' first | (with_reducible assumption) | (with_reducible exact SX0.init _) | (with_reducible exact SX0.refl _) | (with_reducible refine SX0.alloc ?_ _) | (with_reducible refine SX0.call ?_ (by assumption)) | (with_reducible refine SX0.set ?_ _ _ _ ?_) | (with_reducible refine SX0.drew ?_) | (simp; done) | omega | (simp; omega))) (fun hHeld => ?_)
    refine WE_take 0 (v := ?_) rfl (by kernel_rfl) (fun _ _ _ h => h) (Or.inl ⟨by rfl, ?_⟩) (by assumption) ?_; rotate_left; (· intro w9 hSw; (try dsimp only at hSw); go_simp; try with_reducible rfl); (try simp only [Act.put, List.setIfInBounds_toArray, List.set_cons_zero, List.set_cons_succ])
    refine WE_take 1 (v := ?_) rfl (by kernel_rfl) (fun _ _ _ h => h) (Or.inl ⟨by rfl, ?_⟩) (by assumption) ?_; rotate_left; (· intro w9 hSw; (try dsimp only at hSw); go_simp; try with_reducible rfl); (try simp only [Act.put, List.setIfInBounds_toArray, List.set_cons_zero, List.set_cons_succ])
    refine WE_take 2 (v := ?_) rfl (by kernel_rfl) (fun _ _ _ h => h) (Or.inl ⟨by rfl, ?_⟩) (by assumption) ?_; rotate_left; (· intro w9 hSw; (try dsimp only at hSw); go_simp; try with_reducible rfl); (try simp only [Act.put, List.setIfInBounds_toArray, List.set_cons_zero, List.set_cons_succ])
    refine WE_take 3 (v := ?_) rfl (by kernel_rfl) (fun _ _ _ h => h) (Or.inl ⟨by rfl, ?_⟩) (by assumption) ?_; rotate_left; (· intro w9 hSw; (try dsimp only at hSw); go_simp; try with_reducible rfl); (try simp only [Act.put, List.setIfInBounds_toArray, List.set_cons_zero, List.set_cons_succ])
    refine WE_take 4 (v := ?_) rfl (by kernel_rfl) (fun _ _ _ h => h) (Or.inl ⟨by rfl, ?_⟩) (by assumption) ?_; rotate_left; (· intro w9 hSw; (try dsimp only at hSw); go_simp; try with_reducible rfl); (try simp only [Act.put, List.setIfInBounds_toArray, List.set_cons_zero, List.set_cons_succ])
    refine WE_take 5 (v := ?_) rfl (by kernel_rfl) (fun _ _ _ h => h) (Or.inl ⟨by rfl, ?_⟩) (by assumption) ?_; rotate_left; (· intro w9 hSw; (try dsimp only at hSw); go_simp; try with_reducible rfl); (try simp only [Act.put, List.setIfInBounds_toArray, List.set_cons_zero, List.set_cons_succ])
    refine WE_take 7 (v := ?_) rfl (by kernel_rfl) (fun _ _ _ h => h) (Or.inl ⟨by rfl, ?_⟩) (by assumption) ?_; rotate_left; (· intro w9 hSw; (try dsimp only at hSw); go_simp; try with_reducible rfl); (try simp only [Act.put, List.setIfInBounds_toArray, List.set_cons_zero, List.set_cons_succ])
    refine WE_take 8 (v := ?_) rfl (by kernel_rfl) (fun _ _ _ h => h) (Or.inl ⟨by rfl, ?_⟩) (by assumption) ?_; rotate_left; (· intro w9 hSw; (try dsimp only at hSw); go_simp; try with_reducible rfl); (try simp only [Act.put, List.setIfInBounds_toArray, List.set_cons_zero, List.set_cons_succ])
    refine WE_take 9 (v := ?_) rfl (by kernel_rfl) (fun _ _ _ h => h) (Or.inl ⟨by rfl, ?_⟩) (by assumption) ?_; rotate_left; (· intro w9 hSw; (try dsimp only at hSw); go_simp; try with_reducible rfl); (try simp only [Act.put, List.setIfInBounds_toArray, List.set_cons_zero, List.set_cons_succ])
    refine WE_take 10 (v := ?_) rfl (by kernel_rfl) (fun _ _ _ h => h) (Or.inl ⟨by rfl, ?_⟩) (by assumption) ?_; rotate_left; (· intro w9 hSw; (try dsimp only at hSw); go_simp; try with_reducible rfl); (try simp only [Act.put, List.setIfInBounds_toArray, List.set_cons_zero, List.set_cons_succ])
    refine WE_take 11 (v := ?_) rfl (by kernel_rfl) (fun _ _ _ h => h) (Or.inl ⟨by rfl, ?_⟩) (by assumption) ?_; rotate_left; (· intro w9 hSw; (try dsimp only at hSw); go_simp; try with_reducible rfl); (try simp only [Act.put, List.setIfInBounds_toArray, List.set_cons_zero, List.set_cons_succ])
    refine WE_step 6 rfl (by kernel_rfl) (fun K hK => ?_)
    go_simp
    (first | (go_at_call 36; with_reducible refine (rend34_any A1 A2 Ai n1 c1 n2 c2 ni ci mn es (ps i) _ (HG.out.kept hkw3.drew).ed (HPI.out.later (hkw3.drew).toBelow) HPV.out.2 HPV.out.1 fa HFA.out).mono ?_; rintro e w4 ⟨rfl, hb4⟩; have HK4 := Lib.hid ((hkw3.drew).call hb4)) | (go_at_call 36; refine (rend34_any A1 A2 A0 n1 c1 n2 c2 n0 c0 mn es (ps 0) _ (HG.out.kept HK4.out).ed (HPI0.out.later HK4.out.toBelow) HP0.out.2 HP0.out.1 en0 HEN0.out).mono ?_; rintro e w5 ⟨rfl, hb5⟩))
    (try go_wp2_with fail)
    refine hK.out _ _ ?_ (fun hHeld => ?_)
    · (repeat' first | (with_reducible assumption) | (with_reducible exact SX0.init _) | (with_reducible exact SX0.refl _) | (with_reducible refine SX0.alloc ?_ _) | (with_reducible refine SX0.call ?_ (by assumption)) | (with_reducible refine SX0.set ?_ _ _ _ ?_) | (with_reducible refine SX0.drew ?_) | (simp; done) | omega | (simp; omega))
    clear hK K
    try simp only [Act.put, List.setIfInBounds_toArray, List.set_cons_zero, List.set_cons_succ]
    refine WE_step 12 rfl (by kernel_rfl) (fun K hK => ?_)
    go_simp
    (first | (go_at_call 36; with_reducible refine (rend34_any A1 A2 Ai n1 c1 n2 c2 ni ci mn es (ps i) _ (HG.out.kept hkw3.drew).ed (HPI.out.later (hkw3.drew).toBelow) HPV.out.2 HPV.out.1 fa HFA.out).mono ?_; rintro e w4 ⟨rfl, hb4⟩; have HK4 := Lib.hid ((hkw3.drew).call hb4)) | (go_at_call 36; refine (rend34_any A1 A2 A0 n1 c1 n2 c2 n0 c0 mn es (ps 0) _ (HG.out.kept HK4.out).ed (HPI0.out.later HK4.out.toBelow) HP0.out.2 HP0.out.1 en0 HEN0.out).mono ?_; rintro e w5 ⟨rfl, hb5⟩))
    (try go_wp2_with fail)
    refine hK.out _ _ ?_ (fun hHeld => ?_)
    · (repeat' first | (with_reducible assumption) | (with_reducible exact SX0.init _) | (with_reducible exact SX0.refl _) | (with_reducible refine SX0.alloc ?_ _) | (with_reducible refine SX0.call ?_ (by assumption)) | (with_reducible refine SX0.set ?_ _ _ _ ?_) | (with_reducible refine SX0.drew ?_) | (simp; done) | omega | (simp; omega))
    clear hK K
    try simp only [Act.put, List.setIfInBounds_toArray, List.set_cons_zero, List.set_cons_succ]
    refine WE_last rfl (by kernel_rfl) (fun K hK => ?_)
    go_simp
    refine hK.out _ _ ?_
    clear hK K
    have hk5 : Kept [] w3 w5 := hHeld.1
    have hkw5 : Kept [] w w5 := keptTrans hkw3 hk5
    have hkW5 : Kept [] W w5 := keptTrans hkW3 hk5
    have ⟨L5, C5, F5⟩ := hkW5.blk (by simp) B0
    have r65 : w5.cell? ⟨b6, o6 + i, none⟩ = some (.slice Ai ni ci) := (hk5.cell b6 _ hl63 (by simp)).trans r6
    have V5 := Lib.hid (V3.out.kept hk5 (by simp))
    have hl65 : b6 < w5.heap.size := Nat.lt_of_lt_of_le hl63 hk5.size
    clear C3 F3 r6 hc0 hHeld V3 hm'
    go_upto_region 13 with fail
    refine wp_region_E 8 (fun w' => SX0 w5 w') (by kernel_rfl) (by (repeat' first | (with_reducible assumption) | (with_reducible exact SX0.init _) | (with_reducible exact SX0.refl _) | (with_reducible refine SX0.alloc ?_ _) | (with_reducible refine SX0.call ?_ (by assumption)) | (with_reducible refine SX0.set ?_ _ _ _ ?_) | (with_reducible refine SX0.drew ?_) | (simp; done) | omega | (simp; omega))) (fun hHeld => ?_)
    refine WE_take 0 (v := ?_) rfl (by kernel_rfl) (fun _ _ _ h => h) (Or.inl ⟨by rfl, ?_⟩) (by assumption) ?_; rotate_left; (· intro w9 hSw; (try dsimp only at hSw); go_simp; try with_reducible rfl); (try simp only [Act.put, List.setIfInBounds_toArray, List.set_cons_zero, List.set_cons_succ])
    refine WE_take 1 (v := ?_) rfl (by kernel_rfl) (fun _ _ _ h => h) (Or.inl ⟨by rfl, ?_⟩) (by assumption) ?_; rotate_left; (· intro w9 hSw; (try dsimp only at hSw); go_simp; try with_reducible rfl); (try simp only [Act.put, List.setIfInBounds_toArray, List.set_cons_zero, List.set_cons_succ])
    refine WE_take 2 (v := ?_) rfl (by kernel_rfl) (fun _ _ _ h => h) (Or.inl ⟨by rfl, ?_⟩) (by assumption) ?_; rotate_left; (· intro w9 hSw; (try dsimp only at hSw); go_simp; try with_reducible rfl); (try simp only [Act.put, List.setIfInBounds_toArray, List.set_cons_zero, List.set_cons_succ])
    refine WE_take 3 (v := ?_) rfl (by kernel_rfl) (fun _ _ _ h => h) (Or.inl ⟨by rfl, ?_⟩) (by assumption) ?_; rotate_left; (· intro w9 hSw; (try dsimp only at hSw); go_simp; try with_reducible rfl); (try simp only [Act.put, List.setIfInBounds_toArray, List.set_cons_zero, List.set_cons_succ])
    refine WE_take 4 (v := ?_) rfl (by kernel_rfl) (fun _ _ _ h => h) (Or.inl ⟨by rfl, ?_⟩) (by assumption) ?_; rotate_left; (· intro w9 hSw; (try dsimp only at hSw); go_simp; try with_reducible rfl); (try simp only [Act.put, List.setIfInBounds_toArray, List.set_cons_zero, List.set_cons_succ])
    refine WE_take 5 (v := ?_) rfl (by kernel_rfl) (fun _ _ _ h => h) (Or.inl ⟨by rfl, ?_⟩) (by assumption) ?_; rotate_left; (· intro w9 hSw; (try dsimp only at hSw); go_simp; try with_reducible rfl); (try simp only [Act.put, List.setIfInBounds_toArray, List.set_cons_zero, List.set_cons_succ])
    refine WE_step 6 rfl (by kernel_rfl) (fun K hK => ?_)
    go_simp
    (first | (go_at_call 24; refine (ralong_any A1 A2 A3 A4 Ai n1 c1 n2 c2 n3 c3 n4 c4 ni ci Fn mn ns es ls sd (ps i) _ (HG.out.kept hkw5.drew).ed (HF.out.later (hkw5.drew).toBelow) (HS.out.later (hkw5.drew).toBelow) (HPI.out.later (hkw5.drew).toBelow) hn4 HO.out HPV.out.1 HPV.out.2).mono ?_; rintro e w6 ⟨g6, c6', rfl, hv6, hg6, hc6', hb6⟩; have V6 := Lib.hid hv6; have V56 := Lib.hid (V5.out.kept (((Kept.refl [] w5).drew).call hb6) (by simp)); clear hv6) | (go_at_call 37; refine (rfold_any gr g6 Fn cr c6' _ _ _ hFn1 hFn2 V56.out V6.out).mono ?_; rintro e w7 ⟨g7, c7, rfl, hv7, hg7, hc7, hb7⟩; have V7 := Lib.hid hv7; have hg7' : w.heap.size ≤ g7 := Nat.le_trans (Nat.le_trans (hkw5.drew).size hb6.size) hg7; clear hv7))
    (try go_wp2_with fail)
    refine hK.out _ _ ?_ (fun hHeld => ?_)
    · (repeat' first | (with_reducible assumption) | (with_reducible exact SX0.init _) | (with_reducible exact SX0.refl _) | (with_reducible refine SX0.alloc ?_ _) | (with_reducible refine SX0.call ?_ (by assumption)) | (with_reducible refine SX0.set ?_ _ _ _ ?_) | (with_reducible refine SX0.drew ?_) | (simp; done) | omega | (simp; omega))
    clear hK K
    try simp only [Act.put, List.setIfInBounds_toArray, List.set_cons_zero, List.set_cons_succ]
    refine WE_step 7 rfl (by kernel_rfl) (fun K hK => ?_)
    go_simp
    (first | (go_at_call 24; refine (ralong_any A1 A2 A3 A4 Ai n1 c1 n2 c2 n3 c3 n4 c4 ni ci Fn mn ns es ls sd (ps i) _ (HG.out.kept hkw5.drew).ed (HF.out.later (hkw5.drew).toBelow) (HS.out.later (hkw5.drew).toBelow) (HPI.out.later (hkw5.drew).toBelow) hn4 HO.out HPV.out.1 HPV.out.2).mono ?_; rintro e w6 ⟨g6, c6', rfl, hv6, hg6, hc6', hb6⟩; have V6 := Lib.hid hv6; have V56 := Lib.hid (V5.out.kept (((Kept.refl [] w5).drew).call hb6) (by simp)); clear hv6) | (go_at_call 37; refine (rfold_any gr g6 Fn cr c6' _ _ _ hFn1 hFn2 V56.out V6.out).mono ?_; rintro e w7 ⟨g7, c7, rfl, hv7, hg7, hc7, hb7⟩; have V7 := Lib.hid hv7; have hg7' : w.heap.size ≤ g7 := Nat.le_trans (Nat.le_trans (hkw5.drew).size hb6.size) hg7; clear hv7))
    (try go_wp2_with fail)
    refine hK.out _ _ ?_ (fun hHeld => ?_)
    · (repeat' first | (with_reducible assumption) | (with_reducible exact SX0.init _) | (with_reducible exact SX0.refl _) | (with_reducible refine SX0.alloc ?_ _) | (with_reducible refine SX0.call ?_ (by assumption)) | (with_reducible refine SX0.set ?_ _ _ _ ?_) | (with_reducible refine SX0.drew ?_) | (simp; done) | omega | (simp; omega))
    clear hK K
    try simp only [Act.put, List.setIfInBounds_toArray, List.set_cons_zero, List.set_cons_succ]
    refine WE_last rfl (by kernel_rfl) (fun K hK => ?_)
    go_simp
    refine hK.out _ _ ?_
    clear hK K
    have hk7 : Kept [] w5 w7 := hHeld.1
    go_wp2_with fail
    exact ⟨⟨i + 1, g7, c7, by omega, by go_num, rfl, keptTrans hkW5 hk7, V7, hg7', hc7, hfin⟩, by simp [intOf]; omega⟩
end Go.Proofs.YtmjebjjhfoncfaaDoor
/- The law EnvironMeet; paths that came in. -/
namespace Go.Proofs.YtmjebjjhfoncfaaDoor
open Go.RowKit Go.Df
attribute [local go_sem ↓] Go.wp_at_zero Go.wp_at_succ

set_option maxRecDepth 100000 in
set_option maxHeartbeats 8000000 in
theorem envMeet_any (A1 A2 A3 A4 A6 : Option Addr) (n1 c1 n2 c2 n3 c3 n4 c4 n6 c6 : Nat) (mn F : Int) (ns : List Sp.Nd) (es : List Sp.Ed) (ls : List (List Sp.Xp)) (sd : List Sp.Vs) (ps : Nat → List Int) (w : World) (hg : Gr w A1 n1 A2 n2 ns es) (hf : Fls w A3 n3 ls) (hs : Vss w A4 n4 sd) (hp : Pths w A6 n6 ps) (hc4 : n4 ≤ c4) (hgv : Gv w) :
    Calls Tryd.prog 6 #[.agg #[.slice A1 n1 c1, .slice A2 n2 c2, .int .i64 mn, .int .i64 F, .slice A3 n3 c3, .slice A4 n4 c4], .slice A6 n6 c6] w fun e w' => e = .returned (.bool true) ∧ Below w.heap.size w w' := by
  have HG := Lib.hid hg
  have HF := Lib.hid hf
  have HS := Lib.hid hs
  have HP := Lib.hid hp
  have HGV := Lib.hid hgv
  clear hg hf hs hp hgv
  go_enter Tryd.func6, Tryd.ntmps6
  go_upto_region 1 with fail
  refine wp_named (fun W => ∃ b0, w.heap.size = b0 ∧ Blk W b0 [.slice A1 n1 c1, .slice A2 n2 c2, .int .i64 mn, .int .i64 F, .slice A3 n3 c3, .slice A4 n4 c4] ∧ Below w.heap.size w W) ⟨_, rfl, ?_, ?_⟩ ?_
  · exact Blk.new _ _ _ _ (by first | rfl | simp)
  · go_grown
  rintro W ⟨b0, e0, B0, hB⟩
  rw [e0]
  have G0 : w.heap.size ≤ b0 := by omega
  clear e0
  have ⟨L0, C0, F0⟩ := B0
  have hkW : Kept [] w W := (Kept.refl _ _).call hB
  go_wp2_with fail
  refine (small_any A1 A2 A3 A4 n1 c1 n2 c2 n3 c3 n4 c4 mn F ls _ (HF.out.later hB)).mono ?_
  rintro e w1 ⟨s, rfl, hsm, hb1⟩
  have hk1 : Kept [] W w1 := (Kept.refl _ _).call hb1
  have hkw1 : Kept [] w w1 := keptTrans hkW hk1
  have ⟨L1, C1, F1⟩ := hk1.blk (by simp) B0
  clear C0 F0
  cases s with
  | false =>
    go_wp2_with fail
    go_ret
    exact ⟨rfl, hkw1.toBelow⟩
  | true =>
  have hsz := hsm rfl
  clear hsm
  by_cases t5 : 6 < n6
  · have d5 : decide ((6 : Int) < n6) = true := by simp; omega
    go_wp2_with fail
    go_ret
    exact ⟨rfl, hkw1.toBelow⟩
  have d5 : decide ((6 : Int) < n6) = false := by simp; omega
  obtain ⟨er, her⟩ : ∃ er, meErr ns es mn F ls sd n6 ps = er := ⟨_, rfl⟩
  have HER := Lib.hid her
  clear her
  go_wp2_with fail
  go_loop [5] (fun s => ∃ i : Nat, i ≤ n6 ∧ s = .int .i64 i) (fun s => n6 - (intOf s).toNat)
  case atStart => exact ⟨0, Nat.zero_le _, rfl⟩
  case round =>
  obtain ⟨i, hi, rfl⟩ := hrel
  by_cases hlt : i < n6
  · obtain ⟨b6, o6, Ai, ni, ci, rfl, hl6, hc6, -⟩ := HP.out.row hkw1.toBelow hlt
    have hl6r : b6 < w1.heap.size := Nat.lt_of_lt_of_le hl6 hkw1.size
    have hi1 : (i : Int) < (n6 : Int) := by omega
    by_cases t6 : 30 < ni
    · have d6 : decide ((30 : Int) < ni) = true := by simp; omega
      go_wp2_with fail
      go_ret
      exact ⟨rfl, hkw1.toBelow⟩
    · have d6 : decide ((30 : Int) < ni) = false := by simp; omega
      go_wp2_with fail
      exact ⟨⟨i + 1, by omega, by go_num⟩, by simp [intOf]; omega⟩
  obtain rfl : i = n6 := by omega
  clear hlt
  go_wp2_with fail
  refine (pMeet_any A1 A2 A3 A4 A6 n1 c1 n2 c2 n3 c3 n4 c4 i c6 mn F ns es ls sd ps _ (HG.out.kept hkw1) (HF.out.later hkw1.toBelow) (HS.out.later hkw1.toBelow) (HP.out.later hkw1.toBelow) (by omega) (by omega) hc4 (HGV.out.later hkw1.toBelow) er HER.out).mono ?_
  rintro e w2 ⟨h2, hb2⟩
  have hk2 : Kept [] W w2 := hk1.call hb2
  have hkw2 : Kept [] w w2 := keptTrans hkW hk2
  have ⟨L2, C2, F2⟩ := hk2.blk (by simp) B0
  clear C1 F1
  by_cases h0 : er = 0
  case neg =>
    rcases h2 with ⟨-, rfl⟩ | ⟨h9, -⟩
    case inr => exact absurd h9 h0
    go_wp2_with fail
    refine (rMeet_any A1 A2 A3 A4 A6 n1 c1 n2 c2 n3 c3 n4 c4 i c6 mn F ns es ls sd ps _ (HG.out.kept hkw2) (HF.out.later hkw2.toBelow) (HS.out.later hkw2.toBelow) (HP.out.later hkw2.toBelow) (by omega) (by omega) er HER.out).mono ?_
    rintro e w3 ⟨h3, hb3⟩
    rcases h3 with ⟨-, rfl⟩ | ⟨h9, -⟩
    case inr => exact absurd h9 h0
    have hkw3 : Kept [] w w3 := hkw2.call hb3
    clear h0
    go_wp2_with fail
    refine (values_any none none 0 0 0 (fun _ => ⟨0, 0⟩) _ (fun h => absurd h (by omega)) (fun h => absurd h (by omega)) (by omega)).mono ?_
    rintro e w4 ⟨rfl, hb4⟩
    have hkw4 : Kept [] w w4 := hkw3.call hb4
    go_wp2_with fail
    refine (knows_any _ (HGV.out.later hkw4.toBelow)).mono ?_
    rintro e w5 ⟨rfl, hb5⟩
    go_wp2_with fail
    go_ret
    exact ⟨rfl, (hkw4.call hb5).toBelow⟩
  subst h0
  rcases h2 with ⟨h9, -⟩ | ⟨-, g, c, rfl, hv2, hg2, hc2⟩
  · exact absurd rfl h9
  have V2 := Lib.hid hv2
  clear hv2
  go_wp2_with fail
  refine (rMeet_any A1 A2 A3 A4 A6 n1 c1 n2 c2 n3 c3 n4 c4 i c6 mn F ns es ls sd ps _ (HG.out.kept hkw2) (HF.out.later hkw2.toBelow) (HS.out.later hkw2.toBelow) (HP.out.later hkw2.toBelow) (by omega) (by omega) 0 HER.out).mono ?_
  rintro e w3 ⟨h3, hb3⟩
  rcases h3 with ⟨h9, -⟩ | ⟨-, g', c', rfl, hv3, hg3, hc3⟩
  · exact absurd rfl h9
  have V3 := Lib.hid hv3
  have hkw3 : Kept [] w w3 := hkw2.call hb3
  have V23 := Lib.hid (V2.out.later hb3)
  clear hv3
  obtain ⟨Fn, hFn⟩ : ∃ Fn, F.toNat = Fn := ⟨_, rfl⟩
  rw [hFn]
  rw [hFn] at V3 V23
  go_wp2_with fail
  refine (values_any (some ⟨g, 0, none⟩) (some ⟨g', 0, none⟩) Fn c c' _ _ (fun _ => ⟨g, rfl, V23.out⟩) (fun _ => ⟨g', rfl, V3.out⟩) (by omega)).mono ?_
  rintro e w4 ⟨rfl, hb4⟩
  have hkw4 : Kept [] w w4 := hkw3.call hb4
  go_wp2_with fail
  refine (knows_any _ (HGV.out.later hkw4.toBelow)).mono ?_
  rintro e w5 ⟨rfl, hb5⟩
  go_wp2_with fail
  go_ret
  exact ⟨rfl, (hkw4.call hb5).toBelow⟩
end Go.Proofs.YtmjebjjhfoncfaaDoor
namespace Go.Proofs.YtmjebjjhfoncfaaDoor
open Go.RowKit Go.ChangeShapes Go.WideShapes Go.Joins Go.Df
section
variable {H : Type} {enc : TypeId × Value → H} {w : World} {base : Nat} {held : Bool}
/-- Paths that came in. -/
theorem open_paths {fuel : Nat} {v : Value} {x : DataW H × List MemPlace} (h : DataW.trod enc Tryd.prog w base (fun _ => true) held fuel 55 [v] = some x) : ∃ A n c ps, v = .slice A n c ∧ Pths w A n ps := by
  obtain ⟨A, n, c, rfl, -, hrow⟩ := open_rowsC Tryd.underlying55 (by kernel_rfl) h
  have hex : ∀ i, ∃ l : List Int, ∀ b o, A = some ⟨b, o, none⟩ → i < n → ∃ Ai ni ci, w.cell? ⟨b, o + i, none⟩ = some (.slice Ai ni ci) ∧ Ints w Ai ni l := by
    intro i
    by_cases hi : i < n
    · obtain ⟨b, o, rfl, hb, hc⟩ := hrow (by omega)
      obtain ⟨u, m, y, h1, h2⟩ := hc i hi
      obtain ⟨Ai, ni, ci, path, rfl, hp, _⟩ := open_SIn Tryd.underlying30 Tryd.underlying3 (by kernel_rfl) h2
      refine ⟨path, fun b' o' e' _ => ?_⟩
      injection e' with e'
      injection e' with e1 e2
      subst e1 e2
      exact ⟨Ai, ni, ci, h1, hp.1⟩
    · exact ⟨[], fun _ _ _ h => absurd h hi⟩
  refine ⟨A, n, c, fun i => (hex i).choose, rfl, fun h0 => ?_⟩
  obtain ⟨b, o, rfl, hb, -⟩ := hrow h0
  exact ⟨b, o, rfl, hb, fun i hi => (hex i).choose_spec b o rfl hi⟩
end
end Go.Proofs.YtmjebjjhfoncfaaDoor
