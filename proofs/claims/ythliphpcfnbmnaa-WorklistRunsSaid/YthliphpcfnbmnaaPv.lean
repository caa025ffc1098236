/- Contracts of Push: an item that is there. -/
import Derived.Test.YthliphpcfnbmnaaPu
namespace Go.Proofs.Ythliphpcfnbmnaa
open Go.RowKit Go.Df
attribute [local go_sem ↓] Go.wp_at_zero Go.wp_at_succ
theorem own_keptX {X : List Nat} {w w1 : World} {base : Nat} {e : TypeId} {v : Value} {n : Nat} {xs : List Value} (h : w.ownsRow base e 1 v n xs) (hk : Kept X w w1) (hX : ∀ g, v.ownBlock = some g → g ∉ X) : w1.ownsRow base e 1 v n xs := by
  refine ⟨h.1, ?_⟩
  rcases h.2 with h1 | ⟨g, cap, cur, h1, h2, h3, h4⟩
  · exact .inl h1
  · refine .inr ⟨g, cap, cur, h1, h2, ?_, h4⟩
    rw [hk.block g (by
      rcases Nat.lt_or_ge g w.heap.size with h1 | h1
      · exact h1
      · rw [Array.getElem?_eq_none h1] at h3; cases h3) (hX g (by rw [h1]; rfl))]
    exact h3
theorem own_later {w w1 : World} {base : Nat} {e : TypeId} {v : Value} {n : Nat} {xs : List Value} (h : w.ownsRow base e 1 v n xs) (hb : Below w.heap.size w w1) : w1.ownsRow base e 1 v n xs :=
  own_keptX (X := []) h ((Kept.refl _ _).call hb) (by simp)
theorem own_alloc {w : World} {base : Nat} {e : TypeId} {v : Value} {n : Nat} {xs : List Value} (h : w.ownsRow base e 1 v n xs) (o : Obj) : (w.alloc o).ownsRow base e 1 v n xs := own_later h ((Below.refl _ _).alloc (Nat.le_refl _) o)
theorem own_drew {w : World} {base : Nat} {e : TypeId} {v : Value} {n : Nat} {xs : List Value} (h : w.ownsRow base e 1 v n xs) : w.drew.ownsRow base e 1 v n xs := h
theorem own_lt {w : World} {base : Nat} {e : TypeId} {v : Value} {n : Nat} {xs : List Value} (h : w.ownsRow base e 1 v n xs) {g : Nat} (hg : v.ownBlock = some g) : g < w.heap.size := by
  rcases h.2 with ⟨rfl, _⟩ | ⟨g', cap, cur, rfl, h2, h3, h4⟩
  · simp [Value.ownBlock] at hg
  · simp [Value.ownBlock] at hg; subst hg
    rcases Nat.lt_or_ge g' w.heap.size with h1 | h1
    · exact h1
    · rw [Array.getElem?_eq_none h1] at h3; cases h3
theorem own_rng {w : World} {base : Nat} {e : TypeId} {v : Value} {n : Nat} {xs : List Value} (h : w.ownsRow base e 1 v n xs) : Hid (∀ g, v.ownBlock = some g → base ≤ g ∧ g < w.heap.size) := fun _ hg => ⟨own_ge h hg, own_lt h hg⟩
theorem own_base {w : World} {base base' : Nat} {e : TypeId} {v : Value} {n : Nat} {xs : List Value} (h : w.ownsRow base e 1 v n xs) (hb : base' ≤ base) : w.ownsRow base' e 1 v n xs := by
  refine ⟨h.1, ?_⟩
  rcases h.2 with h1 | ⟨g, cap, cur, h1, h2, h4⟩
  · exact .inl h1
  · exact .inr ⟨g, cap, cur, h1, by omega, h4⟩
theorem own_set {w : World} {base : Nat} {e : TypeId} {v : Value} {n : Nat} {xs : List Value} (h : w.ownsRow base e 1 v n xs) (b i : Nat) (u : Value) (hX : ∀ g, v.ownBlock = some g → b ≠ g) : (w.setCell ⟨b, i, none⟩ u).ownsRow base e 1 v n xs :=
  own_keptX (X := [b]) h ((Kept.refl _ _).set b i u (.inl (by simp))) (fun g hg => by simpa using fun e => hX g hg e.symm)
theorem own_slice {w : World} {base : Nat} {e : TypeId} {v : Value} {n : Nat} {xs : List Value} (h : w.ownsRow base e 1 v n xs) : ∃ A c, v = .slice A n c := by
  rcases h.2 with ⟨rfl, rfl⟩ | ⟨g', cap, cur, rfl, h2, h3, h4⟩
  · exact ⟨_, _, rfl⟩
  · exact ⟨_, _, rfl⟩
theorem Wl.perr_ok {r l : List Int} {x : Int} (h : Wl.perr r l x = 0) : Wl.chk r l = 0 ∧ Wl.allowed r.length x = true ∧ r.length ≤ 8192 ∧ l.length ≤ 8192 ∧ (x ∉ l → l.length < 8192) := by
  have hz : Wl.chk r l = 0 := by
    unfold Wl.perr at h; split at h
    · contradiction
    · rename_i h1; simpa using h1
  have ha : Wl.allowed r.length x = true := by
    unfold Wl.perr at h; rw [hz] at h
    by_cases h2 : Wl.allowed r.length x = true
    · exact h2
    · rw [Bool.not_eq_true] at h2; rw [h2] at h; simp at h
  have hsz : r.length ≤ 8192 ∧ l.length ≤ 8192 := by
    have hz2 := hz
    rw [Wl.chk] at hz2
    split at hz2
    · omega
    · omega
  refine ⟨hz, ha, hsz.1, hsz.2, fun hm => ?_⟩
  unfold Wl.perr at h
  rw [hz, ha] at h
  simp [hm] at h
  omega

set_option maxHeartbeats 1000000 in
theorem push_there (A1 A2 : Option Addr) (n1 c1 n2 c2 : Nat) (r l : List Int) (x : Int) (w : World) (hr : Ints w A1 n1 r) (hl : Ints w A2 n2 l) (hA1 : A1 = none → n1 = 0) (hA2 : A2 = none → n2 = 0) (h : Wl.perr r l x = 0) (hm : x ∈ l) :
    Calls Try.prog 13 #[.agg #[.slice A1 n1 c1, .slice A2 n2 c2], .int .i64 x] w (GetQE w r l 0) := by
  obtain ⟨hz, ha, s1, s2, -⟩ := Wl.perr_ok h
  rw [hr.1] at ha s1
  rw [hl.1] at s2
  have HZ := Lib.hid hz
  have HA := Lib.hid ha
  have HA1 := Lib.hid hA1
  have HA2 := Lib.hid hA2
  have HM : Hid (decide (x ∈ l) = true) := Lib.hid (by simpa using hm)
  have HR := Lib.hid hr
  have HL := Lib.hid hl
  clear hz ha hA1 hA2 hm h hr hl
  go_enter Try.func13, Try.ntmps13
  go_upto_region 1 with fail
  refine wp_named (fun W => ∃ b0 b1, w.heap.size = b0 ∧ w.heap.size + 1 = b1 ∧ Blk W b0 [.slice A1 n1 c1, .slice A2 n2 c2] ∧ Blk W b1 [.slice none 0 0, .slice none 0 0] ∧ Below w.heap.size w W) ⟨_, _, rfl, rfl, ?_, ?_, ?_⟩ ?_
  · exact (Blk.new _ _ _ _ (by first | rfl | simp)).alloc _
  · exact Blk.new _ _ _ _ (by first | rfl | simp)
  · go_grown
  rintro W ⟨b0, b1, e0, e1, B0, B1, hB⟩
  rw [e1, e0]
  have G0 : w.heap.size ≤ b0 := by omega
  have n01 : b0 ≠ b1 := by omega
  have G1 : w.heap.size ≤ b1 := by omega
  have n10 : b1 ≠ b0 := by omega
  clear e0 e1
  have ⟨L0, C0, F0⟩ := B0
  have ⟨L1, C1, F1⟩ := B1
  go_wp2_with fail
  refine (check_any _ _ _ _ _ _ r l _ (HR.out.later hB) (HL.out.later hB)).mono ?_
  rintro e w1 ⟨rfl, hb1⟩
  have hk1 : Kept [] W w1 := Kept.call (Kept.refl _ _) hb1
  have ⟨hc1, hf1, hg1⟩ := hk1.rules
  rw [HZ.out]
  go_wp2_with fail
  refine (allowed_any _ _ _ _ _ _ _ _).mono ?_
  rintro e w2 ⟨rfl, hb2⟩
  rw [HA.out]
  have hk2 : Kept [] W w2 := Kept.call hk1 hb2
  have ⟨hc2, hf2, hg2⟩ := hk2.rules
  go_wp2_with fail
  refine (contains_any _ _ _ l _ _ ((HL.out.later hB).kept hk2) (by omega)).mono ?_
  rintro e w3 ⟨rfl, rfl⟩
  rw [HM.out]
  have BW0 := hk2.blk (by simp) B0
  have BW1 := hk2.blk (by simp) B1
  have HRV := Lib.hid ((HR.out.later hB).kept hk2)
  have HLV := Lib.hid ((HL.out.later hB).kept hk2)
  have hBV := hk2.below hB hB.size (by simp)
  have hWV := hk2.size
  clear hc1 hf1 hg1 hc2 hf2 hg2 B0 B1 L0 C0 F0 L1 C1 F1 hk1 hk2 hb1 hb2
  have ⟨L0, C0, F0⟩ := BW0
  have ⟨L1, C1, F1⟩ := BW1
  go_upto_region 9 with fail
  go_cut [8] (fun s wx => ∃ (g : Nat) (A3 A4 : Option Addr) (c3 c4 : Nat), s = .pointer (some ⟨g, 0, none⟩) ∧ Blk wx g [.slice A3 n1 c3, .slice A4 n2 c4] ∧ wx.ownsRow w2.heap.size 3 1 (.slice A3 n1 c3) n1 (r.map (Value.int .i64)) ∧ wx.ownsRow w2.heap.size 3 1 (.slice A4 n2 c4) n2 (l.map (Value.int .i64)) ∧ Kept [] w2 wx ∧ w2.heap.size ≤ g)
  case first =>
    go_region_held3 (fun w' => SX0 w2 w') (repeat' first | (with_reducible assumption) | (with_reducible exact SX0.init _) | (with_reducible exact SX0.refl _) | (with_reducible refine SX0.alloc ?_ _) | (with_reducible refine SX0.call ?_ (by assumption)) | (with_reducible refine SX0.set ?_ _ _ _ ?_) | (with_reducible refine SX0.drew ?_) | (simp; done) | omega | (simp; omega))
      (first | (go_at_call 23; ((with_reducible refine (clone_any A1 n1 c1 r _ (HRV.out.kept (by first | exact (by assumption : SX0 w2 _).1)) (by omega) HA1.out).mono ?_)); rintro e w3 ⟨v1, rfl, hown1, hb3⟩; obtain ⟨A3, c3, rfl⟩ := own_slice hown1; have ho1 := own_rng hown1; obtain ⟨hc3, hf3, hg3⟩ := bcell hb3; have hz3 := hb3.size; try simp at hz3) | (go_at_call 23; ((with_reducible refine (clone_any A2 n2 c2 l _ (HLV.out.kept (by first | exact (by assumption : SX0 w2 _).1)) (by omega) HA2.out).mono ?_)); rintro e w4 ⟨v2, rfl, hown2, hb4⟩; obtain ⟨A4, c4, rfl⟩ := own_slice hown2; have ho2 := own_rng hown2; obtain ⟨hc4, hf4, hg4⟩ := bcell hb4; have hz4 := hb4.size; try simp at hz4))
    all_goals
      go_wp2_with fail
      go_meet
      refine ⟨_, A3, A4, c3, c4, rfl, ?_, ?_, ?_, ?_, ?_⟩
      · (repeat' first | (with_reducible assumption) | (with_reducible refine Blk.set1 ?_) | (with_reducible refine Blk.set2 ?_) | (with_reducible refine Blk.set3 ?_) | (with_reducible refine Blk.set4 ?_) | ((with_reducible refine Blk.new _ _ _ _ ?_); simp; done) | ((with_reducible refine BlkN.new _ _ _ _ _ rfl ?_); simp; done) | (with_reducible refine BlkN.later ?_ (by assumption)) | (with_reducible refine Blk.later ?_ (by assumption)) | (with_reducible refine Blk.alloc ?_ _) | (with_reducible refine BlkN.alloc ?_ _) | (with_reducible refine Blk.drew ?_) | (with_reducible refine BlkN.drew ?_))
      · refine own_base (base := ?_) ?_ ?_
        rotate_left
        · repeat' first | (with_reducible assumption) | (with_reducible refine own_later ?_ (by assumption)) | (with_reducible refine own_alloc ?_ _) | (with_reducible refine own_drew ?_) | (with_reducible refine own_set ?_ _ _ _ ?_) | (intro g hg; have := (ho1.out g hg); first | omega | (simp at this; omega))
        · first | (simp; done) | omega | (simp; omega)
      · refine own_base (base := ?_) ?_ ?_
        rotate_left
        · repeat' first | (with_reducible assumption) | (with_reducible refine own_later ?_ (by assumption)) | (with_reducible refine own_alloc ?_ _) | (with_reducible refine own_drew ?_) | (with_reducible refine own_set ?_ _ _ _ ?_) | (intro g hg; have := (ho2.out g hg); first | omega | (simp at this; omega))
        · first | (simp; done) | omega | (simp; omega)
      · (repeat' first | (with_reducible assumption) | (with_reducible exact Kept.refl _ _) | (with_reducible refine Kept.alloc ?_ _) | (with_reducible refine Kept.call ?_ (by assumption)) | (with_reducible refine Kept.set ?_ _ _ _ (Or.inr ?_)) | (with_reducible refine Kept.drew ?_) | (simp; done) | omega | (simp; omega))
      · first | (simp; done) | omega | (simp; omega)
  case rest =>
    obtain ⟨g, A3, A4, c3, c4, rfl, Bg, hown1, hown2, kc, Hg⟩ := hcut
    have ⟨Lg, Cg, Fg⟩ := Bg
    have ⟨L0', C0', F0'⟩ := kc.blk (by simp) BW0
    have BX1 := kc.blk (by simp) BW1
    have ⟨L1', C1', F1'⟩ := BX1
    have hne : b1 ≠ g := by omega
    clear C0 F0 C1 F1
    obtain ⟨A3', c3', hv3, hi3, hge3⟩ := SIn.of_own hown1
    obtain ⟨A4', c4', hv4, hi4, hge4⟩ := SIn.of_own hown2
    injection hv3 with e1 _ e2
    injection hv4 with e3 _ e4
    subst e1 e2 e3 e4
    clear hown1 hown2
    go_wp2_with fail
    have hkf := ((Kept.refl [b1] wc).set b1 0 (.slice A3 n1 c3) (.inl (by simp))).set b1 1 (.slice A4 n2 c4) (.inl (by simp))
    have ⟨L1f, C1f, F1f⟩ := (Blk.set2 (v0 := .slice A3 n1 c3) (v1 := .slice A4 n2 c4) (BX1.n rfl))
    refine bodyPost_ret (by simp [results, Try.results13, go_sem, C1f]; rfl) rfl ?_
    refine ⟨_, _, _, _, _, _, rfl, hi3.keptX hkf (fun _ a ha => ?_), hi4.keptX hkf (fun _ a ha => ?_), ?_, fun a ha => ?_, fun a ha => ?_⟩
    · have := hge3 a ha
      simp; omega
    · have := hge4 a ha
      simp; omega
    · exact hkf.below (kc.below hBV hBV.size (by simp)) (Nat.le_trans hBV.size kc.size) (by simpa using G1)
    · have t1 := hge3 a ha; have t2 := hBV.size; have t3 := hkf.size; omega
    · have t1 := hge4 a ha; have t2 := hBV.size; have t3 := hkf.size; omega
end Go.Proofs.Ythliphpcfnbmnaa
