/- A pack of texts: Qv Qw. -/
import Derived.Test.YtmbihjlflcjlnaaGreatZq
/- Contracts of Push: an item that is there. -/
namespace Go.Proofs.YtmbihjlflcjlnaaGreat
open Go.RowKit Go.Df
attribute [local go_sem ↓] Go.wp_at_zero Go.wp_at_succ
theorem Wl.perr_ok {r l : List Int} {x : Int} (h : Wl.perr r l x = 0) : Wl.chk r l = 0 ∧ Wl.allowed r.length x = true ∧ r.length ≤ 8192 ∧ l.length ≤ 8192 ∧ (x ∉ l → l.length < 8192) := by
  have hz : Wl.chk r l = 0 := by
    unfold Wl.perr at h; split at h
    · contradiction
    · rename_i h1; simpa using h1
  have ha : Wl.allowed r.length x = true := by
    unfold Wl.perr at h; rw [hz] at h
    by_cases h2 : Wl.allowed r.length x = true
    · exact h2
    · rw [Bool.not_eq_true] at h2; rw [h2] at h; simp at h
  have hsz : r.length ≤ 8192 ∧ l.length ≤ 8192 := by
    have hz2 := hz
    rw [Wl.chk] at hz2
    split at hz2
    · omega
    · omega
  refine ⟨hz, ha, hsz.1, hsz.2, fun hm => ?_⟩
  unfold Wl.perr at h
  rw [hz, ha] at h
  simp [hm] at h
  omega

set_option maxHeartbeats 1000000 in
theorem push_there (A1 A2 : Option Addr) (n1 c1 n2 c2 : Nat) (r l : List Int) (x : Int) (w : World) (hr : Ints w A1 n1 r) (hl : Ints w A2 n2 l) (hA1 : A1 = none → n1 = 0) (hA2 : A2 = none → n2 = 0) (h : Wl.perr r l x = 0) (hm : x ∈ l) :
    Calls Tryz.prog 104 #[.agg #[.slice A1 n1 c1, .slice A2 n2 c2], .int .i64 x] w (GetQE w r l 0) := by
  obtain ⟨hz, ha, s1, s2, -⟩ := Wl.perr_ok h
  rw [hr.1] at ha s1
  rw [hl.1] at s2
  have HZ := Lib.hid hz
  have HA := Lib.hid ha
  have HA1 := Lib.hid hA1
  have HA2 := Lib.hid hA2
  have HM : Hid (decide (x ∈ l) = true) := Lib.hid (by simpa using hm)
  have HR := Lib.hid hr
  have HL := Lib.hid hl
  clear hz ha hA1 hA2 hm h hr hl
  go_enter Tryz.func104, Tryz.ntmps104
  go_upto_region 1 with fail
  refine wp_named (fun W => ∃ b0 b1, w.heap.size = b0 ∧ w.heap.size + 1 = b1 ∧ Blk W b0 [.slice A1 n1 c1, .slice A2 n2 c2] ∧ Blk W b1 [.slice none 0 0, .slice none 0 0] ∧ Below w.heap.size w W) ⟨_, _, rfl, rfl, ?_, ?_, ?_⟩ ?_
  · exact (Blk.new _ _ _ _ (by first | rfl | simp)).alloc _
  · exact Blk.new _ _ _ _ (by first | rfl | simp)
  · go_grown
  rintro W ⟨b0, b1, e0, e1, B0, B1, hB⟩
  rw [e1, e0]
  have G0 : w.heap.size ≤ b0 := by omega
  have n01 : b0 ≠ b1 := by omega
  have G1 : w.heap.size ≤ b1 := by omega
  have n10 : b1 ≠ b0 := by omega
  clear e0 e1
  have ⟨L0, C0, F0⟩ := B0
  have ⟨L1, C1, F1⟩ := B1
  go_wp2_with fail
  refine (wlck_any _ _ _ _ _ _ r l _ (HR.out.later hB) (HL.out.later hB)).mono ?_
  rintro e w1 ⟨rfl, hb1⟩
  have hk1 : Kept [] W w1 := Kept.call (Kept.refl _ _) hb1
  have ⟨hc1, hf1, hg1⟩ := hk1.rules
  rw [HZ.out]
  go_wp2_with fail
  refine (allowed_any _ _ _ _ _ _ _ _).mono ?_
  rintro e w2 ⟨rfl, hb2⟩
  rw [HA.out]
  have hk2 : Kept [] W w2 := Kept.call hk1 hb2
  have ⟨hc2, hf2, hg2⟩ := hk2.rules
  go_wp2_with fail
  refine (contains_any _ _ _ l _ _ ((HL.out.later hB).kept hk2) (by omega)).mono ?_
  rintro e w3 ⟨rfl, rfl⟩
  rw [HM.out]
  have BW0 := hk2.blk (by simp) B0
  have BW1 := hk2.blk (by simp) B1
  have HRV := Lib.hid ((HR.out.later hB).kept hk2)
  have HLV := Lib.hid ((HL.out.later hB).kept hk2)
  have hBV := hk2.below hB hB.size (by simp)
  have hWV := hk2.size
  clear hc1 hf1 hg1 hc2 hf2 hg2 B0 B1 L0 C0 F0 L1 C1 F1 hk1 hk2 hb1 hb2
  have ⟨L0, C0, F0⟩ := BW0
  have ⟨L1, C1, F1⟩ := BW1
  go_upto_region 9 with fail
  go_cut [8] (fun s wx => ∃ (g : Nat) (A3 A4 : Option Addr) (c3 c4 : Nat), s = .pointer (some ⟨g, 0, none⟩) ∧ Blk wx g [.slice A3 n1 c3, .slice A4 n2 c4] ∧ wx.ownsRow w2.heap.size 3 1 (.slice A3 n1 c3) n1 (r.map (Value.int .i64)) ∧ wx.ownsRow w2.heap.size 3 1 (.slice A4 n2 c4) n2 (l.map (Value.int .i64)) ∧ Kept [] w2 wx ∧ w2.heap.size ≤ g)
  case first =>
    go_region_held3 (fun w' => SX0 w2 w') (repeat' first | (with_reducible assumption) | (with_reducible exact SX0.init _) | (with_reducible exact SX0.refl _) | (with_reducible refine SX0.alloc ?_ _) | (with_reducible refine SX0.call ?_ (by assumption)) | (with_reducible refine SX0.set ?_ _ _ _ ?_) | (with_reducible refine SX0.drew ?_) | (simp; done) | omega | (simp; omega))
      (first | (go_at_call 101; ((with_reducible refine (clone_any A1 n1 c1 r _ (HRV.out.kept (by first | exact (by assumption : SX0 w2 _).1)) (by omega) HA1.out).mono ?_)); rintro e w3 ⟨v1, rfl, hown1, hb3⟩; obtain ⟨A3, c3, rfl⟩ := own_slice hown1; have ho1 := own_rng hown1; obtain ⟨hc3, hf3, hg3⟩ := bcell hb3; have hz3 := hb3.size; try simp at hz3) | (go_at_call 101; ((with_reducible refine (clone_any A2 n2 c2 l _ (HLV.out.kept (by first | exact (by assumption : SX0 w2 _).1)) (by omega) HA2.out).mono ?_)); rintro e w4 ⟨v2, rfl, hown2, hb4⟩; obtain ⟨A4, c4, rfl⟩ := own_slice hown2; have ho2 := own_rng hown2; obtain ⟨hc4, hf4, hg4⟩ := bcell hb4; have hz4 := hb4.size; try simp at hz4))
    all_goals
      go_wp2_with fail
      go_meet
      refine ⟨_, A3, A4, c3, c4, rfl, ?_, ?_, ?_, ?_, ?_⟩
      · (repeat' first | (with_reducible assumption) | (with_reducible refine Blk.set1 ?_) | (with_reducible refine Blk.set2 ?_) | (with_reducible refine Blk.set3 ?_) | (with_reducible refine Blk.set4 ?_) | ((with_reducible refine Blk.new _ _ _ _ ?_); simp; done) | ((with_reducible refine BlkN.new _ _ _ _ _ rfl ?_); simp; done) | (with_reducible refine BlkN.later ?_ (by assumption)) | (with_reducible refine Blk.later ?_ (by assumption)) | (with_reducible refine Blk.alloc ?_ _) | (with_reducible refine BlkN.alloc ?_ _) | (with_reducible refine Blk.drew ?_) | (with_reducible refine BlkN.drew ?_))
      · refine own_base (base := ?_) ?_ ?_
        rotate_left
        · repeat' first | (with_reducible assumption) | (with_reducible refine own_later ?_ (by assumption)) | (with_reducible refine own_alloc ?_ _) | (with_reducible refine own_drew ?_) | (with_reducible refine own_set ?_ _ _ _ ?_) | (intro g hg; have := (ho1.out g hg); first | omega | (simp at this; omega))
        · first | (simp; done) | omega | (simp; omega)
      · refine own_base (base := ?_) ?_ ?_
        rotate_left
        · repeat' first | (with_reducible assumption) | (with_reducible refine own_later ?_ (by assumption)) | (with_reducible refine own_alloc ?_ _) | (with_reducible refine own_drew ?_) | (with_reducible refine own_set ?_ _ _ _ ?_) | (intro g hg; have := (ho2.out g hg); first | omega | (simp at this; omega))
        · first | (simp; done) | omega | (simp; omega)
      · (repeat' first | (with_reducible assumption) | (with_reducible exact Kept.refl _ _) | (with_reducible refine Kept.alloc ?_ _) | (with_reducible refine Kept.call ?_ (by assumption)) | (with_reducible refine Kept.set ?_ _ _ _ (Or.inr ?_)) | (with_reducible refine Kept.drew ?_) | (simp; done) | omega | (simp; omega))
      · first | (simp; done) | omega | (simp; omega)
  case rest =>
    obtain ⟨g, A3, A4, c3, c4, rfl, Bg, hown1, hown2, kc, Hg⟩ := hcut
    have ⟨Lg, Cg, Fg⟩ := Bg
    have ⟨L0', C0', F0'⟩ := kc.blk (by simp) BW0
    have BX1 := kc.blk (by simp) BW1
    have ⟨L1', C1', F1'⟩ := BX1
    have hne : b1 ≠ g := by omega
    clear C0 F0 C1 F1
    obtain ⟨A3', c3', hv3, hi3, hge3⟩ := SIn.of_own hown1
    obtain ⟨A4', c4', hv4, hi4, hge4⟩ := SIn.of_own hown2
    injection hv3 with e1 _ e2
    injection hv4 with e3 _ e4
    subst e1 e2 e3 e4
    clear hown1 hown2
    go_wp2_with fail
    have hkf := ((Kept.refl [b1] wc).set b1 0 (.slice A3 n1 c3) (.inl (by simp))).set b1 1 (.slice A4 n2 c4) (.inl (by simp))
    have ⟨L1f, C1f, F1f⟩ := (Blk.set2 (v0 := .slice A3 n1 c3) (v1 := .slice A4 n2 c4) (BX1.n rfl))
    refine bodyPost_ret (by simp [results, Tryz.results104, go_sem, C1f]; rfl) rfl ?_
    refine ⟨_, _, _, _, _, _, rfl, hi3.keptX hkf (fun _ a ha => ?_), hi4.keptX hkf (fun _ a ha => ?_), ?_, fun a ha => ?_, fun a ha => ?_⟩
    · have := hge3 a ha
      simp; omega
    · have := hge4 a ha
      simp; omega
    · exact hkf.below (kc.below hBV hBV.size (by simp)) (Nat.le_trans hBV.size kc.size) (by simpa using G1)
    · have t1 := hge3 a ha; have t2 := hBV.size; have t3 := hkf.size; omega
    · have t1 := hge4 a ha; have t2 := hBV.size; have t3 := hkf.size; omega
end Go.Proofs.YtmbihjlflcjlnaaGreat
/- Contracts of Push: a new item. -/
namespace Go.Proofs.YtmbihjlflcjlnaaGreat
open Go.RowKit Go.Df
attribute [local go_sem ↓] Go.wp_at_zero Go.wp_at_succ
theorem Wl.errs_zero {r l : List Int} (n : Nat) : ∀ k, Wl.errs r l k n = 0 → ∀ j, k ≤ j → j < k + n → Wl.err r l j = 0 := by
  induction n with
  | zero => intro k _ j h1 h2; omega
  | succ n ih =>
    intro k h j h1 h2
    rw [Wl.errs] at h
    by_cases e : Wl.err r l k = 0
    · rw [if_pos e] at h
      rcases Nat.eq_or_lt_of_le h1 with rfl | h3
      · exact e
      · exact ih (k + 1) h j (by omega) (by omega)
    · rw [if_neg e] at h; exact absurd h e
theorem Wl.chk_err {r l : List Int} (h : Wl.chk r l = 0) {j : Nat} (hj : j < l.length) : Wl.err r l j = 0 := by
  rw [Wl.chk] at h
  split at h
  · cases h
  · exact Wl.errs_zero _ 0 h j (Nat.zero_le _) (by omega)
theorem Wl.chk_allowed {r l : List Int} (h : Wl.chk r l = 0) {j : Nat} (hj : j < l.length) : Wl.allowed r.length (gi l j) = true := by
  have := Wl.chk_err h hj
  unfold Wl.err at this
  by_cases e : Wl.allowed r.length (gi l j) = false
  · rw [if_pos e] at this; cases this
  · simpa using e
/-- Where Push lays a new item: from place k down. -/
def Wl.placeD (r l : List Int) (x : Int) : Nat → Nat
  | 0 => 0
  | k + 1 => if Wl.before r x (gi l k) = true then Wl.placeD r l x k else k + 1
/-- Where Push lays a new item. -/
def Wl.place (r l : List Int) (x : Int) : Nat := if 0 < r.length then Wl.placeD r l x l.length else l.length
theorem Wl.placeD_le (r l : List Int) (x : Int) (k : Nat) : Wl.placeD r l x k ≤ k := by
  induction k with
  | zero => exact Nat.le_refl _
  | succ k ih => rw [Wl.placeD]; split <;> omega
theorem Wl.place_le (r l : List Int) (x : Int) : Wl.place r l x ≤ l.length := by
  unfold Wl.place; split
  · exact Wl.placeD_le _ _ _ _
  · exact Nat.le_refl _

set_option maxHeartbeats 1000000 in
theorem push_new (A1 A2 : Option Addr) (n1 c1 n2 c2 : Nat) (r l : List Int) (x : Int) (w : World) (hr : Ints w A1 n1 r) (hl : Ints w A2 n2 l) (hA1 : A1 = none → n1 = 0) (hA2 : A2 = none → n2 = 0) (h : Wl.perr r l x = 0) (hm : x ∉ l) :
    Calls Tryz.prog 104 #[.agg #[.slice A1 n1 c1, .slice A2 n2 c2], .int .i64 x] w (GetQE w r (Wl.ins l (Wl.place r l x) x) 0) := by
  obtain ⟨hz, ha, s1, s2, s3⟩ := Wl.perr_ok h
  have s4 := s3 hm
  have HI : Hid (∀ j, j < n2 → Wl.allowed n1 (gi l j) = true) := by
    intro j hj; rw [← hr.1]; exact Wl.chk_allowed hz (by rw [hl.1]; exact hj)
  rw [hl.1] at s4
  clear s3
  rw [hr.1] at ha s1
  rw [hl.1] at s2
  have HZ := Lib.hid hz
  have HA := Lib.hid ha
  have HA1 := Lib.hid hA1
  have HA2 := Lib.hid hA2
  have HM : Hid (decide (x ∈ l) = false) := Lib.hid (by simpa using hm)
  have HR := Lib.hid hr
  have Hr := Lib.hid hr.1
  have Hl := Lib.hid hl.1
  have HL := Lib.hid hl
  clear hz ha hA1 hA2 hm h hr hl
  go_enter Tryz.func104, Tryz.ntmps104
  go_upto_region 1 with fail
  refine wp_named (fun W => ∃ b0 b1, w.heap.size = b0 ∧ w.heap.size + 1 = b1 ∧ Blk W b0 [.slice A1 n1 c1, .slice A2 n2 c2] ∧ Blk W b1 [.slice none 0 0, .slice none 0 0] ∧ Below w.heap.size w W) ⟨_, _, rfl, rfl, ?_, ?_, ?_⟩ ?_
  · exact (Blk.new _ _ _ _ (by first | rfl | simp)).alloc _
  · exact Blk.new _ _ _ _ (by first | rfl | simp)
  · go_grown
  rintro W ⟨b0, b1, e0, e1, B0, B1, hB⟩
  rw [e1, e0]
  have G0 : w.heap.size ≤ b0 := by omega
  have n01 : b0 ≠ b1 := by omega
  have G1 : w.heap.size ≤ b1 := by omega
  have n10 : b1 ≠ b0 := by omega
  clear e0 e1
  have ⟨L0, C0, F0⟩ := B0
  have ⟨L1, C1, F1⟩ := B1
  go_wp2_with fail
  refine (wlck_any _ _ _ _ _ _ r l _ (HR.out.later hB) (HL.out.later hB)).mono ?_
  rintro e w1 ⟨rfl, hb1⟩
  have hk1 : Kept [] W w1 := Kept.call (Kept.refl _ _) hb1
  have ⟨hc1, hf1, hg1⟩ := hk1.rules
  rw [HZ.out]
  go_wp2_with fail
  refine (allowed_any _ _ _ _ _ _ _ _).mono ?_
  rintro e w2 ⟨rfl, hb2⟩
  rw [HA.out]
  have hk2 : Kept [] W w2 := Kept.call hk1 hb2
  have ⟨hc2, hf2, hg2⟩ := hk2.rules
  go_wp2_with fail
  refine (contains_any _ _ _ l _ _ ((HL.out.later hB).kept hk2) (by omega)).mono ?_
  rintro e w3 ⟨rfl, rfl⟩
  rw [HM.out]
  have BW0 := hk2.blk (by simp) B0
  have BW1 := hk2.blk (by simp) B1
  have HRV := Lib.hid ((HR.out.later hB).kept hk2)
  have HLV := Lib.hid ((HL.out.later hB).kept hk2)
  have hBV := hk2.below hB hB.size (by simp)
  have hWV := hk2.size
  clear hc1 hf1 hg1 hc2 hf2 hg2 B0 B1 L0 C0 F0 L1 C1 F1 hk1 hk2 hb1 hb2
  have ⟨L0, C0, F0⟩ := BW0
  have ⟨L1, C1, F1⟩ := BW1
  have hd : decide ((8192 : Int) ≤ n2) = false := by simp; omega
  go_upto_region 9 with fail
  go_cut [8] (fun s wx => ∃ (g : Nat) (A3 A4 : Option Addr) (c3 c4 : Nat), s = .pointer (some ⟨g, 0, none⟩) ∧ Blk wx g [.slice A3 n1 c3, .slice A4 n2 c4] ∧ wx.ownsRow w2.heap.size 3 1 (.slice A3 n1 c3) n1 (r.map (Value.int .i64)) ∧ wx.ownsRow w2.heap.size 3 1 (.slice A4 n2 c4) n2 (l.map (Value.int .i64)) ∧ Hid (∀ h, (Value.slice A4 n2 c4).ownBlock = some h → h ≠ g) ∧ Hid (∀ h, (Value.slice A3 n1 c3).ownBlock = some h → h ≠ g ∧ ∀ k, (Value.slice A4 n2 c4).ownBlock = some k → h ≠ k) ∧ Kept [] w2 wx ∧ w2.heap.size ≤ g)
  case first =>
    go_region_held3 (fun w' => SX0 w2 w') (repeat' first | (with_reducible assumption) | (with_reducible exact SX0.init _) | (with_reducible exact SX0.refl _) | (with_reducible refine SX0.alloc ?_ _) | (with_reducible refine SX0.call ?_ (by assumption)) | (with_reducible refine SX0.set ?_ _ _ _ ?_) | (with_reducible refine SX0.drew ?_) | (simp; done) | omega | (simp; omega))
      (first | (go_at_call 101; ((with_reducible refine (clone_any A1 n1 c1 r _ (HRV.out.kept (by first | exact (by assumption : SX0 w2 _).1)) (by omega) HA1.out).mono ?_)); rintro e w3 ⟨v1, rfl, hown1, hb3⟩; obtain ⟨A3, c3, rfl⟩ := own_slice hown1; have ho1 := own_rng hown1; obtain ⟨hc3, hf3, hg3⟩ := bcell hb3; have hz3 := hb3.size; try simp at hz3) | (go_at_call 101; ((with_reducible refine (clone_any A2 n2 c2 l _ (HLV.out.kept (by first | exact (by assumption : SX0 w2 _).1)) (by omega) HA2.out).mono ?_)); rintro e w4 ⟨v2, rfl, hown2, hb4⟩; obtain ⟨A4, c4, rfl⟩ := own_slice hown2; have ho2 := own_rng hown2; obtain ⟨hc4, hf4, hg4⟩ := bcell hb4; have hz4 := hb4.size; try simp at hz4))
    all_goals
      go_wp2_with fail
      go_meet
      refine ⟨_, A3, A4, c3, c4, rfl, ?_, ?_, ?_, ?_, ?_, ?_, ?_⟩
      · (repeat' first | (with_reducible assumption) | (with_reducible refine Blk.set1 ?_) | (with_reducible refine Blk.set2 ?_) | (with_reducible refine Blk.set3 ?_) | (with_reducible refine Blk.set4 ?_) | ((with_reducible refine Blk.new _ _ _ _ ?_); simp; done) | ((with_reducible refine BlkN.new _ _ _ _ _ rfl ?_); simp; done) | (with_reducible refine BlkN.later ?_ (by assumption)) | (with_reducible refine Blk.later ?_ (by assumption)) | (with_reducible refine Blk.alloc ?_ _) | (with_reducible refine BlkN.alloc ?_ _) | (with_reducible refine Blk.drew ?_) | (with_reducible refine BlkN.drew ?_))
      · refine own_base (base := ?_) ?_ ?_
        rotate_left
        · repeat' first | (with_reducible assumption) | (with_reducible refine own_later ?_ (by assumption)) | (with_reducible refine own_alloc ?_ _) | (with_reducible refine own_drew ?_) | (with_reducible refine own_set ?_ _ _ _ ?_) | (intro g hg; have := (ho1.out g hg); first | omega | (simp at this; omega))
        · first | (simp; done) | omega | (simp; omega)
      · refine own_base (base := ?_) ?_ ?_
        rotate_left
        · repeat' first | (with_reducible assumption) | (with_reducible refine own_later ?_ (by assumption)) | (with_reducible refine own_alloc ?_ _) | (with_reducible refine own_drew ?_) | (with_reducible refine own_set ?_ _ _ _ ?_) | (intro g hg; have := (ho2.out g hg); first | omega | (simp at this; omega))
        · first | (simp; done) | omega | (simp; omega)
      · exact Lib.hid (fun h hh => by have := ho2.out h hh; first | omega | (simp at this; omega))
      · refine Lib.hid (fun h hh => ?_)
        have t1 := ho1.out h hh
        refine ⟨?_, fun k hk => ?_⟩
        · first | omega | (simp at t1; omega)
        · have t2 := ho2.out k hk
          first | omega | (simp at t1 t2; omega)
      · (repeat' first | (with_reducible assumption) | (with_reducible exact Kept.refl _ _) | (with_reducible refine Kept.alloc ?_ _) | (with_reducible refine Kept.call ?_ (by assumption)) | (with_reducible refine Kept.set ?_ _ _ _ (Or.inr ?_)) | (with_reducible refine Kept.drew ?_) | (simp; done) | omega | (simp; omega))
      · first | (simp; done) | omega | (simp; omega)
  case rest =>
    obtain ⟨g, A3, A4, c3, c4, rfl, Bg, hown1, hown2, hne4, hne3, kc, Hg⟩ := hcut
    have ⟨Lg, Cg, Fg⟩ := Bg
    have ⟨L0', C0', F0'⟩ := kc.blk (by simp) BW0
    have BX1 := kc.blk (by simp) BW1
    have ⟨L1', C1', F1'⟩ := BX1
    have hne : b1 ≠ g := by omega
    clear C0 F0 C1 F1
    obtain ⟨A3', c3', hv3, hi3, hge3⟩ := SIn.of_own hown1
    obtain ⟨A4', c4', hv4, hi4, hge4⟩ := SIn.of_own hown2
    injection hv3 with e1 _ e2
    injection hv4 with e3 _ e4
    subst e1 e2 e3 e4
    have HI3 := Lib.hid hi3
    have HI4 := Lib.hid hi4
    have HG3 := Lib.hid hge3
    have HG4 := Lib.hid hge4
    have HO2 := Lib.hid hown2
    clear hown1 hown2 hi3 hi4 hge3 hge4
    by_cases hz : n1 = 0
    · have z1 : decide (0 < n1) = false := by simp; omega
      have z2 : decide ((0 : Int) < (n1 : Int)) = false := by simp; omega
      have hpl : Hid (Wl.place r l x = n2) := by
        show Wl.place r l x = n2
        unfold Wl.place; rw [Hr.out, if_neg (by omega), Hl.out]
      clear hz
      go_wp2_with fail
      rw [show ((n2 : Nat) : Int) = ((Wl.place r l x : Nat) : Int) by rw [hpl.out]]
      refine (insert_own w2.heap.size n2 (Wl.place r l x) _ _ l x _ (own_alloc HO2.out _) (by rw [← Hl.out]; exact Wl.place_le r l x) (by omega) (heap_alloc_new _ _) (fun h hh => by have := own_lt HO2.out hh; omega) (by simp; omega)).mono ?_
      rintro e w5 ⟨A5, n5, c5, rfl, hi5, hge5, hk5⟩
      have HI5 := Lib.hid hi5
      have HG5 := Lib.hid hge5
      have hXg : g ∉ (Value.slice A4 n2 c4).ownBlock.toList := fun hh => hne4.out g (by simpa using hh) rfl
      have hXb : b1 ∉ (Value.slice A4 n2 c4).ownBlock.toList := fun hh => by have := own_ge HO2.out (g := b1) (by simpa using hh); omega
      have BG5 := hk5.blk hXg (Bg.alloc _)
      have BB5 := hk5.blk hXb (BX1.alloc _)
      have ⟨Lg5, Cg5, Fg5⟩ := BG5
      have ⟨Lb5, Cb5, Fb5⟩ := BB5
      have HI35 := Lib.hid (HI3.out)
      clear hi5 hge5 Cg Fg C0' F0' C1' F1'
      go_wp2_with fail
      have hkf := ((((Kept.refl [g, b1] w5).set g 1 (.slice A5 n5 c5) (.inl (by simp))).set b1 0 (.slice A3 n1 c3) (.inl (by simp))).set b1 1 (.slice A5 n5 c5) (.inl (by simp)))
      have ⟨L1f, C1f, F1f⟩ := (Blk.set2 (v0 := .slice A3 n1 c3) (v1 := .slice A5 n5 c5) ((BB5.setOther g 1 (.slice A5 n5 c5) (Ne.symm hne)).n rfl))
      refine bodyPost_ret (by simp [results, Tryz.results104, go_sem, C1f]; rfl) rfl ?_
      refine ⟨_, _, _, _, _, _, rfl, ((HI3.out.later ((Below.refl _ _).alloc (Nat.le_refl _) _)).keptX hk5 (fun _ a ha hh => ?_)).keptX hkf (fun _ a ha => ?_), HI5.out.keptX hkf (fun _ a ha => ?_), ?_, fun a ha => ?_, fun a ha => ?_⟩
      · subst ha; exact (hne3.out a.block rfl).2 a.block (by simpa using hh) rfl
      · subst ha
        have t1 := (hne3.out a.block rfl).1
        have := HG3.out a rfl
        simp; omega
      · obtain ⟨t5, t6⟩ := HG5.out a ha
        rcases t6 with t6 | t6
        · have := hne4.out _ t6
          simp; omega
        · have h2 := kc.size
          simp at t6; simp; omega
      · refine Kept.below (X := [g, b1]) (Kept.below (X := (Value.slice A4 n2 c4).ownBlock.toList) (Kept.below (X := []) (kc.below hBV hBV.size (by simp)) (Nat.le_trans hBV.size kc.size) (by simp) ((Kept.refl _ _).alloc _)) ?_ ?_ hk5) ?_ ?_ hkf
        · have h1 := hBV.size; have h2 := kc.size; simp; omega
        · intro y hy; have := own_ge HO2.out (g := y) (by simpa using hy); have h1 := hBV.size; omega
        · have h1 := hBV.size; have h2 := kc.size; have h3 := hk5.size; simp at h3; omega
        · have h1 := hBV.size; simp; omega
      · have t1 := HG3.out a ha; have t2 := hBV.size; have t3 := hkf.size; have t4 := hk5.size; have t5 := kc.size; simp at t4; first | omega | (have t7 := HKR.out.size; omega)
      · have t1 := HG5.out a ha; have t2 := hBV.size; have t3 := hkf.size; have t5 := HI5.out.inW (by simp [Wl.ins]) ha; omega
    · have z1 : decide (0 < n1) = true := by simp; omega
      have z2 : decide ((0 : Int) < (n1 : Int)) = true := by simp; omega
      have z3 : 0 < n1 := by omega
      clear hz
      go_wp2_with fail
      go_loopw [9] (fun p wr => ∃ k q : Nat, k ≤ n2 ∧ p = .int .i64 k ∧ wr = wc.drewN q ∧ Hid (Wl.placeD r l x n2 = Wl.placeD r l x k)) (fun p _ => (intOf p).toNat)
      case atStart => exact ⟨n2, 0, Nat.le_refl _, rfl, rfl, Lib.hid rfl⟩
      case round =>
        obtain ⟨k, q, hk, rfl, hwr, hpk⟩ := hrel
        have BgR : Blk wr g [.slice A3 n1 c3, .slice A4 n2 c4] := by rw [hwr]; exact Bg
        have BbR : Blk wr b1 [.slice none 0 0, .slice none 0 0] := by rw [hwr]; exact BX1
        have HR3 : Hid (SIn wr A3 n1 c3 r) := by rw [hwr]; exact HI3.out
        have HR4 : Hid (SIn wr A4 n2 c4 l) := by rw [hwr]; exact HI4.out
        have HOR : Hid (wr.ownsRow w2.heap.size 3 1 (.slice A4 n2 c4) n2 (l.map (Value.int .i64))) := by rw [hwr]; exact HO2.out
        have HKR : Hid (Kept [] wc wr) := by rw [hwr]; exact (Kept.refl _ _).drewN _
        have HW := Lib.hid hwr
        clear hwr Bg Lg Cg Fg L0' C0' F0' BX1 L1' C1' F1' HI4 HO2
        have ⟨Lg, Cg, Fg⟩ := BgR
        have ⟨L1', C1', F1'⟩ := BbR
        by_cases hk0 : k = 0
        · have hpl : Hid (Wl.place r l x = k) := by
            show Wl.place r l x = k
            unfold Wl.place; rw [Hr.out, if_pos z3, Hl.out, hpk.out, hk0]; rfl
          have y1 : decide (0 < k) = false := by simp; omega
          have y2 : decide ((0 : Int) < (k : Int)) = false := by simp; omega
          clear hk0
          go_wp2_with fail
          go_quiet (fail)
          go_wp2_with fail
          rw [show ((k : Nat) : Int) = ((Wl.place r l x : Nat) : Int) by rw [hpl.out]]
          refine (insert_own w2.heap.size n2 (Wl.place r l x) _ _ l x _ (own_alloc (own_drewN HOR.out _) _) (by rw [← Hl.out]; exact Wl.place_le r l x) (by omega) (heap_alloc_new _ _) (fun h hh => by have := own_lt HOR.out hh; first | omega | (simp; omega)) (by have h7 := HKR.out.size; have h8 := kc.size; simp; omega)).mono ?_
          rintro e w5 ⟨A5, n5, c5, rfl, hi5, hge5, hk5⟩
          have HI5 := Lib.hid hi5
          have HG5 := Lib.hid hge5
          have hXg : g ∉ (Value.slice A4 n2 c4).ownBlock.toList := fun hh => hne4.out g (by simpa using hh) rfl
          have hXb : b1 ∉ (Value.slice A4 n2 c4).ownBlock.toList := fun hh => by have := own_ge HOR.out (g := b1) (by simpa using hh); omega
          have BG5 := hk5.blk hXg ((BgR.drewN _).alloc _)
          have BB5 := hk5.blk hXb ((BbR.drewN _).alloc _)
          have ⟨Lg5, Cg5, Fg5⟩ := BG5
          have ⟨Lb5, Cb5, Fb5⟩ := BB5
          have HI35 := Lib.hid (HR3.out)
          clear hi5 hge5 Cg Fg C1' F1'
          go_wp2_with fail
          have hkf := ((((Kept.refl [g, b1] w5).set g 1 (.slice A5 n5 c5) (.inl (by simp))).set b1 0 (.slice A3 n1 c3) (.inl (by simp))).set b1 1 (.slice A5 n5 c5) (.inl (by simp)))
          have ⟨L1f, C1f, F1f⟩ := (Blk.set2 (v0 := .slice A3 n1 c3) (v1 := .slice A5 n5 c5) ((BB5.setOther g 1 (.slice A5 n5 c5) (Ne.symm hne)).n rfl))
          refine bodyPost_ret (by simp [results, Tryz.results104, go_sem, C1f]; rfl) rfl ?_
          refine ⟨_, _, _, _, _, _, rfl, (((HR3.out.drewN _).later ((Below.refl _ _).alloc (Nat.le_refl _) _)).keptX hk5 (fun _ a ha hh => ?_)).keptX hkf (fun _ a ha => ?_), HI5.out.keptX hkf (fun _ a ha => ?_), ?_, fun a ha => ?_, fun a ha => ?_⟩
          · subst ha; exact (hne3.out a.block rfl).2 a.block (by simpa using hh) rfl
          · subst ha
            have t1 := (hne3.out a.block rfl).1
            have := HG3.out a rfl
            simp; omega
          · obtain ⟨t5, t6⟩ := HG5.out a ha
            rcases t6 with t6 | t6
            · have := hne4.out _ t6
              simp; omega
            · have h2 := kc.size
              have h7 := HKR.out.size
              simp at t6; simp; omega
          · refine Kept.below (X := [g, b1]) (Kept.below (X := (Value.slice A4 n2 c4).ownBlock.toList) (Kept.below (X := []) (kc.below hBV hBV.size (by simp)) (Nat.le_trans hBV.size kc.size) (by simp) (((HKR.out).drewN _).alloc _)) ?_ ?_ hk5) ?_ ?_ hkf
            · have h1 := hBV.size; have h2 := kc.size; have h7 := HKR.out.size; simp; omega
            · intro y hy; have := own_ge HOR.out (g := y) (by simpa using hy); have h1 := hBV.size; omega
            · have h1 := hBV.size; have h2 := kc.size; have h3 := hk5.size; have h7 := HKR.out.size; simp at h3; omega
            · have h1 := hBV.size; simp; omega
          · have t1 := HG3.out a ha; have t2 := hBV.size; have t3 := hkf.size; have t4 := hk5.size; have t5 := kc.size; simp at t4; first | omega | (have t7 := HKR.out.size; omega)
          · have t1 := HG5.out a ha; have t2 := hBV.size; have t3 := hkf.size; have t5 := HI5.out.inW (by simp [Wl.ins]) ha; omega
        · have y1 : decide (0 < k) = true := by simp; omega
          have y2 : decide ((0 : Int) < (k : Int)) = true := by simp; omega
          have y3 : 0 < k := by omega
          have hal := HI.out (k - 1) (by omega)
          obtain ⟨p0, p1, p2⟩ := Wl.allowed_lt hal s1
          obtain ⟨q0, q1, q2⟩ := Wl.allowed_lt HA.out s1
          have p3 := p2 z3
          have q3 := q2 z3
          obtain ⟨b4, o4, e4, l4, c4'⟩ := HR4.out.1.at_ (by omega)
          subst e4
          have hcell : wr.cell? ⟨b4, o4 + (k - 1), none⟩ = some (.int .i64 (gi l (k - 1))) := c4' (k - 1) (by omega)
          clear hk0 hal p2 q2 c4'
          by_cases hbf : Wl.before r x (gi l (k - 1)) = true
          · have hpk' : Hid (Wl.placeD r l x n2 = Wl.placeD r l x (k - 1)) := by
              show Wl.placeD r l x n2 = _
              rw [hpk.out]
              obtain ⟨m, rfl⟩ : ∃ m, k = m + 1 := ⟨k - 1, by omega⟩
              rw [Wl.placeD, if_pos (by simpa using hbf)]; rfl
            go_wp2_with fail
            go_quiet ((go_at_call 145; exact Calls.quiet_of (before_q _ _ _ r _ _ _ (show Ints (World.drewN wr _) A3 n1 r from HR3.out.1) (by omega) (by omega) (by omega) (by omega))))
            go_wp2_with fail
            exact ⟨⟨k - 1, q + nq, by omega, by go_num, by rw [HW.out]; exact World.drewN_drewN _ _ _, hpk'⟩, by simp [intOf]; omega⟩
          · rw [Bool.not_eq_true] at hbf
            have hpl : Hid (Wl.place r l x = k) := by
              show Wl.place r l x = k
              unfold Wl.place; rw [Hr.out, if_pos z3, Hl.out, hpk.out]
              obtain ⟨m, rfl⟩ : ∃ m, k = m + 1 := ⟨k - 1, by omega⟩
              rw [Wl.placeD, if_neg (by simpa using hbf)]
            go_wp2_with fail
            go_quiet ((go_at_call 145; exact Calls.quiet_of (before_q _ _ _ r _ _ _ (show Ints (World.drewN wr _) A3 n1 r from HR3.out.1) (by omega) (by omega) (by omega) (by omega))))
            go_wp2_with fail
            rw [show ((k : Nat) : Int) = ((Wl.place r l x : Nat) : Int) by rw [hpl.out]]
            refine (insert_own w2.heap.size n2 (Wl.place r l x) _ _ l x _ (own_alloc (own_drewN HOR.out _) _) (by rw [← Hl.out]; exact Wl.place_le r l x) (by omega) (heap_alloc_new _ _) (fun h hh => by have := own_lt HOR.out hh; first | omega | (simp; omega)) (by have h7 := HKR.out.size; have h8 := kc.size; simp; omega)).mono ?_
            rintro e w5 ⟨A5, n5, c5, rfl, hi5, hge5, hk5⟩
            have HI5 := Lib.hid hi5
            have HG5 := Lib.hid hge5
            have hXg : g ∉ (Value.slice (some ⟨b4, o4, none⟩) n2 c4).ownBlock.toList := fun hh => hne4.out g (by simpa using hh) rfl
            have hXb : b1 ∉ (Value.slice (some ⟨b4, o4, none⟩) n2 c4).ownBlock.toList := fun hh => by have := own_ge HOR.out (g := b1) (by simpa using hh); omega
            have BG5 := hk5.blk hXg ((BgR.drewN _).alloc _)
            have BB5 := hk5.blk hXb ((BbR.drewN _).alloc _)
            have ⟨Lg5, Cg5, Fg5⟩ := BG5
            have ⟨Lb5, Cb5, Fb5⟩ := BB5
            have HI35 := Lib.hid (HR3.out)
            clear hi5 hge5 Cg Fg C1' F1'
            go_wp2_with fail
            have hkf := ((((Kept.refl [g, b1] w5).set g 1 (.slice A5 n5 c5) (.inl (by simp))).set b1 0 (.slice A3 n1 c3) (.inl (by simp))).set b1 1 (.slice A5 n5 c5) (.inl (by simp)))
            have ⟨L1f, C1f, F1f⟩ := (Blk.set2 (v0 := .slice A3 n1 c3) (v1 := .slice A5 n5 c5) ((BB5.setOther g 1 (.slice A5 n5 c5) (Ne.symm hne)).n rfl))
            refine bodyPost_ret (by simp [results, Tryz.results104, go_sem, C1f]; rfl) rfl ?_
            refine ⟨_, _, _, _, _, _, rfl, (((HR3.out.drewN _).later ((Below.refl _ _).alloc (Nat.le_refl _) _)).keptX hk5 (fun _ a ha hh => ?_)).keptX hkf (fun _ a ha => ?_), HI5.out.keptX hkf (fun _ a ha => ?_), ?_, fun a ha => ?_, fun a ha => ?_⟩
            · subst ha; exact (hne3.out a.block rfl).2 a.block (by simpa using hh) rfl
            · subst ha
              have t1 := (hne3.out a.block rfl).1
              have := HG3.out a rfl
              simp; omega
            · obtain ⟨t5, t6⟩ := HG5.out a ha
              rcases t6 with t6 | t6
              · have := hne4.out _ t6
                simp; omega
              · have h2 := kc.size
                have h7 := HKR.out.size
                simp at t6; simp; omega
            · refine Kept.below (X := [g, b1]) (Kept.below (X := (Value.slice (some ⟨b4, o4, none⟩) n2 c4).ownBlock.toList) (Kept.below (X := []) (kc.below hBV hBV.size (by simp)) (Nat.le_trans hBV.size kc.size) (by simp) (((HKR.out).drewN _).alloc _)) ?_ ?_ hk5) ?_ ?_ hkf
              · have h1 := hBV.size; have h2 := kc.size; have h7 := HKR.out.size; simp; omega
              · intro y hy; have := own_ge HOR.out (g := y) (by simpa using hy); have h1 := hBV.size; omega
              · have h1 := hBV.size; have h2 := kc.size; have h3 := hk5.size; have h7 := HKR.out.size; simp at h3; omega
              · have h1 := hBV.size; simp; omega
            · have t1 := HG3.out a ha; have t2 := hBV.size; have t3 := hkf.size; have t4 := hk5.size; have t5 := kc.size; simp at t4; first | omega | (have t7 := HKR.out.size; omega)
            · have t1 := HG5.out a ha; have t2 := hBV.size; have t3 := hkf.size; have t5 := HI5.out.inW (by simp [Wl.ins]) ha; omega
end Go.Proofs.YtmbihjlflcjlnaaGreat
