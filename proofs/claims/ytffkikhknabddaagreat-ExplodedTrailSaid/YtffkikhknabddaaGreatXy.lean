/- The contracts of the law's linked and trail. (Printed by genXy.py.) -/
import Derived.Test.YtffkikhknabddaaGreatXj
import Derived.Test.YtffkikhknabddaaGreatZy
import Derived.Test.YtffkikhknabddaaGreatZz
namespace Go.Df
open Go.RowKit
theorem own_mono {w : World} {b b' : Nat} {e : TypeId} {k n : Nat} {v : Value} {xs : List Value} (h : w.ownsRow b e k v n xs) (hb : b' ≤ b) : w.ownsRow b' e k v n xs := by
  refine ⟨h.1, ?_⟩
  rcases h.2 with h2 | ⟨g, cap, cur, h1, h2, h3⟩
  · exact .inl h2
  · exact .inr ⟨g, cap, cur, h1, Nat.le_trans hb h2, h3⟩
theorem Ints.takeT {w : World} {A : Option Addr} {n k : Nat} {xs : List Int} (h : Ints w A n xs) (hk : k ≤ n) : Ints w A k (xs.take k) := by
  refine ⟨by rw [List.length_take, h.1]; omega, fun h0 => ?_⟩
  obtain ⟨b, o, e, hl, hc⟩ := h.2 (by omega)
  refine ⟨b, o, e, hl, fun i hi => ?_⟩
  rw [hc i (by omega), gi_lt (by rw [h.1]; omega), gi_lt (by rw [List.length_take, h.1]; omega), List.getElem_take]
namespace If
open Sp
theorem runS_front {es : List Ed} {k : Int} : ∀ (path : List Int) {a : Int} {cs : List Int}, (runS es a cs (path ++ [k])).1 = 0 → (runS es a cs path).1 = 0
  | [], _, _, _ => rfl
  | x :: r, a, cs, h => by
    rw [List.cons_append, runS] at h
    rw [runS]
    split at h
    · rename_i h0; exact absurd h h0
    · rename_i h0
      rw [if_neg h0]
      exact runS_front r h
theorem follow_front {ns : List Nd} {es : List Ed} {mn fr k : Int} {path : List Int} (h : (followS ns es mn fr (path ++ [k])).1 = 0) : (followS ns es mn fr path).1 = 0 := by
  obtain ⟨h1, h2, h3⟩ := follow_run h
  unfold followS at h ⊢
  split at h
  · rename_i h0; exact absurd h h0
  · rename_i h0
    rw [if_neg h0, if_neg (by simp at h3; omega)]
    exact runS_front path h2
/-- A trail of a fact along a path. -/
def TrD (p : Pb) (path : List Int) (d : Int) (fs : List Int) : Prop := Tr p path fs ∧ gi fs path.length = d
theorem trD_nil {p : Pb} (h : Ok p) {d : Int} (hd : d = 0 ∨ d ∈ alongF p []) : TrD p [] d [d] := by
  have hr : 0 ≤ d ∧ d < p.F := by
    rcases hd with rfl | hd
    · have := h.f1; omega
    · have := alongF_rng h (path := []) (fun j hj => absurd hj (by simp)) d hd; omega
  refine ⟨⟨rfl, fun j hj => ?_, ?_, fun j hj => absurd hj (by simp)⟩, rfl⟩
  · obtain rfl : j = 0 := by simp at hj; omega
    exact hr
  · rcases hd with rfl | hd
    · exact Or.inl rfl
    · right
      have h1 : d ∈ joinF (seedF p.sd p.mn) [] := hd
      rw [joinF_mem] at h1
      rcases h1 with h1 | h1
      · exact h1
      · simp at h1
theorem trD_err {p : Pb} {path fs : List Int} (h : pbErr p = 0) (ht : Tr p path fs) (hf : (followS p.ns p.es p.mn p.mn path).1 = 0) : trErr p path fs = 0 := by
  unfold trErr
  rw [if_neg (not_not_intro h), if_neg (not_not_intro ht.len), if_neg (not_not_intro hf)]
  exact (factErr_iff ht.len).2 ht
theorem err_trD {p : Pb} {path fs : List Int} (h : trErr p path fs = 0) : pbErr p = 0 ∧ Tr p path fs ∧ (followS p.ns p.es p.mn p.mn path).1 = 0 := by
  unfold trErr at h
  split at h
  · rename_i h0; exact absurd h h0
  · rename_i h0
    split at h
    · cases h
    · rename_i h1
      split at h
      · rename_i h2; exact absurd h h2
      · rename_i h2
        have h1 := Decidable.byContradiction h1
        exact ⟨Decidable.byContradiction h0, (factErr_iff h1).1 h, Decidable.byContradiction h2⟩
end If
end Go.Df
namespace Go.Df
namespace If
theorem asc_lenT : ∀ (l : List Int) (a b : Int), l.Pairwise (· < ·) → (∀ y ∈ l, a < y ∧ y < b) → l.length = 0 ∨ (l.length : Int) ≤ b - a - 1
  | [], _, _, _, _ => .inl rfl
  | x :: l, a, b, h, h2 => by
    rw [List.pairwise_cons] at h
    have hx := h2 x (by simp)
    have h3 := asc_lenT l x b h.2 (fun y hy => ⟨h.1 y hy, (h2 y (List.mem_cons_of_mem _ hy)).2⟩)
    right
    rw [List.length_cons]
    rcases h3 with h3 | h3
    · rw [h3]; omega
    · omega
theorem alongF_len2T {p : Pb} (h : Ok p) {path : List Int} (hk : ∀ j, j < path.length → 0 ≤ gi path j ∧ gi path j < p.es.length) : (alongF p path).length ≤ 1024 := by
  have h1 : (alongF p path).Pairwise (· < ·) := by
    unfold alongF
    have : ∀ (path l : List Int), l.Pairwise (· < ·) → (path.foldl (stepF p) l).Pairwise (· < ·) := by
      intro path
      induction path with
      | nil => exact fun l hl => hl
      | cons k r ih => exact fun l _ => ih _ (ascF_asc _)
    exact this path _ (ascF_asc _)
  have h2 := asc_lenT _ 0 p.F h1 (fun y hy => by have := alongF_rng h hk y hy; omega)
  have := h.f2
  omega
end If
end Go.Df
namespace Go.Proofs.YtffkikhknabddaaGreat
open Go.RowKit Go.Df Go.Df.If
attribute [local go_sem ↓] Go.wp_at_zero Go.wp_at_succ

set_option maxRecDepth 100000 in
set_option maxHeartbeats 4000000 in
theorem linked31_any (A1 A2 A3 A4 : Option Addr) (n1 c1 n2 c2 n3 c3 n4 c4 k : Nat) (mn F x y : Int) (ns : List Sp.Nd) (es : List Sp.Ed) (ls : List (List Pr)) (sd : List Sd) (w : World) (he : Eds w A2 n2 es) (hf : Flw w A3 n3 ls) (hs : Sds w A4 n4 sd) (hn4 : n4 ≤ 1000) (hk2 : k < n2) (hk3 : k < n3) (hfl : (gf ls k).length ≤ 8192) :
    Calls Tryz.prog 18 #[.agg #[.slice A1 n1 c1, .slice A2 n2 c2, .int .i64 mn, .int .i64 F, .slice A3 n3 c3, .slice A4 n4 c4], .int .i64 k, .int .i64 x, .int .i64 y] w fun e w' => e = .returned (.bool (linkB ⟨ns, es, mn, F, ls, sd⟩ k x y)) ∧ Below w.heap.size w w' := by
  have HE := Lib.hid he
  have HF := Lib.hid hf
  have HS := Lib.hid hs
  clear he hf hs
  go_enter Tryz.func18, Tryz.ntmps18
  go_upto_region 1 with fail
  refine wp_named (fun W => ∃ b0, w.heap.size = b0 ∧ Blk W b0 [.slice A1 n1 c1, .slice A2 n2 c2, .int .i64 mn, .int .i64 F, .slice A3 n3 c3, .slice A4 n4 c4] ∧ Below w.heap.size w W) ⟨_, rfl, ?_, ?_⟩ ?_
  · exact Blk.new _ _ _ _ (by first | rfl | simp)
  · go_grown
  rintro W ⟨b0, e0, B0, hB⟩
  rw [e0]
  have G0 : w.heap.size ≤ b0 := by omega
  clear e0
  have ⟨L0, C0, F0⟩ := B0
  have hkW : Kept [] w W := (Kept.refl _ _).call hB
  have hk2' : (k : Int) < (n2 : Int) := by omega
  have hk3' : (k : Int) < (n3 : Int) := by omega
  obtain ⟨b3, o3, rfl, hl3, hc3⟩ := HF.out.2 (by omega)
  obtain ⟨Ai, ni, ci, hcell3, hnc3, hprs⟩ := hc3 k hk3
  have HPR := Lib.hid hprs
  have HPL := Lib.hid hprs.1
  have HC3 := Lib.hid hcell3
  have hni : ni ≤ 8192 := by have := hprs.1; omega
  have HSN2 : Hid ((seedF sd (ge es k).b).length ≤ 1000) := Lib.hid (Nat.le_trans (seedF_len sd _) (by rw [HS.out.1]; exact hn4))
  obtain ⟨b2, o2, rfl, hl2, hc2⟩ := HE.out.2 (by omega)
  obtain ⟨nd, hnd⟩ : ∃ nd, (ge es k).b = nd := ⟨_, rfl⟩
  have HC2 := Lib.hid (hc2 k hk2).2.1
  rw [hnd] at HC2 HSN2
  have HND := Lib.hid hnd
  have HLB : Hid (linkB ⟨ns, es, mn, F, ls, sd⟩ k x y = (decide ((⟨x, y⟩ : Pr) ∈ gf ls k) || (decide (x = 0) && decide (y ∈ seedF sd nd)))) := Lib.hid (by unfold linkB; rw [← HND.out])
  clear hprs hcell3 hc3 hc2 hnd
  go_wp2_with fail
  go_loopw [9] (fun i wr => ∃ j : Nat, j ≤ ni ∧ i = .int .i64 j ∧ Kept [] W wr ∧ Hid (∀ z, z < j → gp (gf ls k) z ≠ ⟨x, y⟩)) (fun i _ => ni - (intOf i).toNat)
  case atStart => exact ⟨0, Nat.zero_le _, rfl, Kept.refl _ _, Lib.hid (fun z h => absurd h (by omega))⟩
  case round =>
  clear C0 F0
  obtain ⟨j, hj, rfl, hkr, hne⟩ := hrel
  have ⟨LR, CR, FR⟩ := hkr.blk (by simp) B0
  have hkwr : Kept [] w wr := keptTrans hkW hkr
  have r3 := (hkwr.cell b3 _ hl3 (by simp)).trans HC3.out
  have hl3r : b3 < wr.heap.size := Nat.lt_of_lt_of_le hl3 hkwr.size
  by_cases hlt : j < ni
  · obtain ⟨b, o, rfl, hl, hc⟩ := HPR.out.2 (by omega)
    have h1 := (hkwr.cell b _ hl (by simp)).trans (hc j hlt).1
    have h2 := (hkwr.cell b _ hl (by simp)).trans (hc j hlt).2
    have hlr : b < wr.heap.size := Nat.lt_of_lt_of_le hl hkwr.size
    obtain ⟨yi, yo, en⟩ : ∃ yi yo, gp (gf ls k) j = ⟨yi, yo⟩ := ⟨_, _, rfl⟩
    rw [en] at h1 h2
    have HEN := Lib.hid en
    have hj1 : (j : Int) < (ni : Int) := by omega
    clear hc en
    by_cases he : yi = x ∧ yo = y
    · obtain ⟨rfl, rfl⟩ := he
      have HM : Hid (linkB ⟨ns, es, mn, F, ls, sd⟩ k yi yo = true) := Lib.hid (by rw [HLB.out, decide_eq_true (by rw [← HEN.out]; exact gp_mem (by rw [HPL.out]; exact hlt))]; rfl)
      go_wp2_with fail
      go_ret
      exact ⟨by rw [HM.out]; rfl, hkwr.toBelow⟩
    · have HN : Hid (∀ z, z < j + 1 → gp (gf ls k) z ≠ ⟨x, y⟩) := Lib.hid (fun z h => by
        rcases Nat.lt_or_ge z j with h9 | h9
        · exact hne.out z h9
        · obtain rfl : z = j := by omega
          rw [HEN.out]
          intro h
          injection h with h7 h6
          exact he ⟨h7, h6⟩)
      by_cases e1 : yi = x
      · have e2 : ¬ yo = y := fun h => he ⟨e1, h⟩
        have z1 : (yi == x) = true := by simpa using e1
        have z2 : (yo == y) = false := by simpa using e2
        clear e1 e2 he
        go_wp2_with fail
        exact ⟨⟨j + 1, by omega, by go_num, hkr, HN⟩, by simp [intOf]; omega⟩
      · have z1 : (yi == x) = false := by simpa using e1
        clear e1 he
        go_wp2_with fail
        exact ⟨⟨j + 1, by omega, by go_num, hkr, HN⟩, by simp [intOf]; omega⟩
  obtain rfl : j = ni := by omega
  have hkr0 := hkr
  have HD : Hid (decide ((⟨x, y⟩ : Pr) ∈ gf ls k) = false) := Lib.hid (decide_eq_false (fun hm => by
    obtain ⟨z, hz, e⟩ := mem_gp hm
    exact hne.out z (by rw [← HPL.out]; exact hz) e))
  have HNO : Hid (y ∉ seedF sd nd ∨ x ≠ 0 → linkB ⟨ns, es, mn, F, ls, sd⟩ k x y = false) := Lib.hid (fun h => by
    rw [HLB.out, HD.out]
    rcases h with h | h
    · rw [decide_eq_false h]; simp
    · rw [decide_eq_false h]; rfl)
  have HYES : Hid (x = 0 → y ∈ seedF sd nd → linkB ⟨ns, es, mn, F, ls, sd⟩ k x y = true) := Lib.hid (fun h1 h2 => by rw [HLB.out, decide_eq_true h1, decide_eq_true h2]; simp)
  have HSL := Lib.hid HS.out.1
  clear hlt
  go_wp2_with fail
  go_loopw [10] (fun s wz => ∃ q : Nat, q ≤ n4 ∧ s = .int .i64 q ∧ Kept [] W wz ∧ Hid (∀ z, z < q → ¬ (x = 0 ∧ gd sd z = ⟨nd, y⟩))) (fun s _ => n4 - (intOf s).toNat)
  case atStart => exact ⟨0, Nat.zero_le _, rfl, hkr0, Lib.hid (fun z h => absurd h (by omega))⟩
  case round =>
  rename World => wz
  clear CR FR
  obtain ⟨q, hq, rfl, hkz, hall⟩ := hrel
  have ⟨LZ, CZ, FZ⟩ := hkz.blk (by simp) B0
  have hkwz : Kept [] w wz := keptTrans hkW hkz
  have r2 := (hkwz.cell b2 _ hl2 (by simp)).trans HC2.out
  have hl2z : b2 < wz.heap.size := Nat.lt_of_lt_of_le hl2 hkwz.size
  by_cases hltq : q < n4
  case neg =>
    obtain rfl : q = n4 := by omega
    have HM : Hid (linkB ⟨ns, es, mn, F, ls, sd⟩ k x y = false) := Lib.hid (HNO.out (by
      by_cases hx : x = 0
      · left
        intro hm
        obtain ⟨z, hz, e⟩ := mem_gd (seedF_mem.1 hm)
        exact hall.out z (by rw [← HSL.out]; exact hz) ⟨hx, e⟩
      · exact Or.inr hx))
    go_wp2_with fail
    go_ret
    exact ⟨by rw [HM.out]; rfl, hkwz.toBelow⟩
  obtain ⟨b4, o4, rfl, hl4, hc4'⟩ := HS.out.2 (by omega)
  have s1 := (hkwz.cell b4 _ hl4 (by simp)).trans (hc4' q hltq).1
  have s2 := (hkwz.cell b4 _ hl4 (by simp)).trans (hc4' q hltq).2
  have hl4z : b4 < wz.heap.size := Nat.lt_of_lt_of_le hl4 hkwz.size
  obtain ⟨sn, sf, en⟩ : ∃ sn sf, gd sd q = ⟨sn, sf⟩ := ⟨_, _, rfl⟩
  rw [en] at s1 s2
  have HEN2 := Lib.hid en
  have hq1 : (q : Int) < (n4 : Int) := by omega
  have HNX : Hid (¬ (x = 0 ∧ (⟨sn, sf⟩ : Sd) = ⟨nd, y⟩) → ∀ z, z < q + 1 → ¬ (x = 0 ∧ gd sd z = ⟨nd, y⟩)) := Lib.hid (fun h z hz => by
    rcases Nat.lt_or_ge z q with h9 | h9
    · exact hall.out z h9
    · obtain rfl : z = q := by omega
      rw [HEN2.out]; exact h)
  clear hc4' en
  by_cases hx : x = 0
  · subst hx
    by_cases e1 : sn = nd
    · by_cases e2 : sf = y
      · have HM : Hid (linkB ⟨ns, es, mn, F, ls, sd⟩ k 0 y = true) := Lib.hid (HYES.out rfl (seedF_mem.2 (by rw [← e1, ← e2, ← HEN2.out]; exact gd_mem (by rw [HSL.out]; exact hltq))))
        have z1 : (sn == nd) = true := by simpa using e1
        have z2 : (sf == y) = true := by simpa using e2
        subst e1 e2
        clear z1 z2
        go_upto_region 9 with fail
        refine wp_region_E 18 (fun w' => SX0 wz w') (by kernel_rfl) (by (repeat' first | (with_reducible assumption) | (with_reducible exact SX0.init _) | (with_reducible exact SX0.refl _) | (with_reducible refine SX0.alloc ?_ _) | (with_reducible refine SX0.call ?_ (by assumption)) | (with_reducible refine SX0.set ?_ _ _ _ ?_) | (with_reducible refine SX0.drew ?_) | (simp; done) | omega | (simp; omega))) (fun hHeld => ?_)
        refine WE_take 0 (v := ?_) rfl (by kernel_rfl) (fun _ _ _ h => h) (Or.inl ⟨by rfl, ?_⟩) (by assumption) ?_; rotate_left; (· intro w9 hSw; (try dsimp only at hSw); go_simp; try with_reducible rfl); (try simp only [Act.put, List.setIfInBounds_toArray, List.set_cons_zero, List.set_cons_succ])
        refine WE_take 1 (v := ?_) rfl (by kernel_rfl) (fun _ _ _ h => h) (Or.inl ⟨by rfl, ?_⟩) (by assumption) ?_; rotate_left; (· intro w9 hSw; (try dsimp only at hSw); go_simp; try with_reducible rfl); (try simp only [Act.put, List.setIfInBounds_toArray, List.set_cons_zero, List.set_cons_succ])
        refine WE_take 2 (v := ?_) rfl (by kernel_rfl) (fun _ _ _ h => h) (Or.inl ⟨by rfl, ?_⟩) (by assumption) ?_; rotate_left; (· intro w9 hSw; (try dsimp only at hSw); go_simp; try with_reducible rfl); (try simp only [Act.put, List.setIfInBounds_toArray, List.set_cons_zero, List.set_cons_succ])
        first | (refine WE_take 3 (v := undef) rfl (by kernel_rfl) (fun _ _ _ h => h) (Or.inr ⟨by rfl, rfl⟩) (by assumption) ?_; (try simp only [Act.put, List.setIfInBounds_toArray, List.set_cons_zero, List.set_cons_succ])) | (refine WE_take 3 (v := ?_) rfl (by kernel_rfl) (fun _ _ _ h => h) (Or.inl ⟨by rfl, ?_⟩) (by assumption) ?_; rotate_left; (· intro w9 hSw; (try dsimp only at hSw); go_simp; try with_reducible rfl); (try simp only [Act.put, List.setIfInBounds_toArray, List.set_cons_zero, List.set_cons_succ]))
        first | (refine WE_take 4 (v := undef) rfl (by kernel_rfl) (fun _ _ _ h => h) (Or.inr ⟨by rfl, rfl⟩) (by assumption) ?_; (try simp only [Act.put, List.setIfInBounds_toArray, List.set_cons_zero, List.set_cons_succ])) | (refine WE_take 4 (v := ?_) rfl (by kernel_rfl) (fun _ _ _ h => h) (Or.inl ⟨by rfl, ?_⟩) (by assumption) ?_; rotate_left; (· intro w9 hSw; (try dsimp only at hSw); go_simp; try with_reducible rfl); (try simp only [Act.put, List.setIfInBounds_toArray, List.set_cons_zero, List.set_cons_succ]))
        first | (refine WE_take 5 (v := undef) rfl (by kernel_rfl) (fun _ _ _ h => h) (Or.inr ⟨by rfl, rfl⟩) (by assumption) ?_; (try simp only [Act.put, List.setIfInBounds_toArray, List.set_cons_zero, List.set_cons_succ])) | (refine WE_take 5 (v := ?_) rfl (by kernel_rfl) (fun _ _ _ h => h) (Or.inl ⟨by rfl, ?_⟩) (by assumption) ?_; rotate_left; (· intro w9 hSw; (try dsimp only at hSw); go_simp; try with_reducible rfl); (try simp only [Act.put, List.setIfInBounds_toArray, List.set_cons_zero, List.set_cons_succ]))
        first | (refine WE_take 6 (v := undef) rfl (by kernel_rfl) (fun _ _ _ h => h) (Or.inr ⟨by rfl, rfl⟩) (by assumption) ?_; (try simp only [Act.put, List.setIfInBounds_toArray, List.set_cons_zero, List.set_cons_succ])) | (refine WE_take 6 (v := ?_) rfl (by kernel_rfl) (fun _ _ _ h => h) (Or.inl ⟨by rfl, ?_⟩) (by assumption) ?_; rotate_left; (· intro w9 hSw; (try dsimp only at hSw); go_simp; try with_reducible rfl); (try simp only [Act.put, List.setIfInBounds_toArray, List.set_cons_zero, List.set_cons_succ]))
        first | (refine WE_take 7 (v := undef) rfl (by kernel_rfl) (fun _ _ _ h => h) (Or.inr ⟨by rfl, rfl⟩) (by assumption) ?_; (try simp only [Act.put, List.setIfInBounds_toArray, List.set_cons_zero, List.set_cons_succ])) | (refine WE_take 7 (v := ?_) rfl (by kernel_rfl) (fun _ _ _ h => h) (Or.inl ⟨by rfl, ?_⟩) (by assumption) ?_; rotate_left; (· intro w9 hSw; (try dsimp only at hSw); go_simp; try with_reducible rfl); (try simp only [Act.put, List.setIfInBounds_toArray, List.set_cons_zero, List.set_cons_succ]))
        first | (refine WE_take 8 (v := undef) rfl (by kernel_rfl) (fun _ _ _ h => h) (Or.inr ⟨by rfl, rfl⟩) (by assumption) ?_; (try simp only [Act.put, List.setIfInBounds_toArray, List.set_cons_zero, List.set_cons_succ])) | (refine WE_take 8 (v := ?_) rfl (by kernel_rfl) (fun _ _ _ h => h) (Or.inl ⟨by rfl, ?_⟩) (by assumption) ?_; rotate_left; (· intro w9 hSw; (try dsimp only at hSw); go_simp; try with_reducible rfl); (try simp only [Act.put, List.setIfInBounds_toArray, List.set_cons_zero, List.set_cons_succ]))
        first | (refine WE_take 9 (v := undef) rfl (by kernel_rfl) (fun _ _ _ h => h) (Or.inr ⟨by rfl, rfl⟩) (by assumption) ?_; (try simp only [Act.put, List.setIfInBounds_toArray, List.set_cons_zero, List.set_cons_succ])) | (refine WE_take 9 (v := ?_) rfl (by kernel_rfl) (fun _ _ _ h => h) (Or.inl ⟨by rfl, ?_⟩) (by assumption) ?_; rotate_left; (· intro w9 hSw; (try dsimp only at hSw); go_simp; try with_reducible rfl); (try simp only [Act.put, List.setIfInBounds_toArray, List.set_cons_zero, List.set_cons_succ]))
        first | (refine WE_take 10 (v := undef) rfl (by kernel_rfl) (fun _ _ _ h => h) (Or.inr ⟨by rfl, rfl⟩) (by assumption) ?_; (try simp only [Act.put, List.setIfInBounds_toArray, List.set_cons_zero, List.set_cons_succ])) | (refine WE_take 10 (v := ?_) rfl (by kernel_rfl) (fun _ _ _ h => h) (Or.inl ⟨by rfl, ?_⟩) (by assumption) ?_; rotate_left; (· intro w9 hSw; (try dsimp only at hSw); go_simp; try with_reducible rfl); (try simp only [Act.put, List.setIfInBounds_toArray, List.set_cons_zero, List.set_cons_succ]))
        first | (refine WE_take 11 (v := undef) rfl (by kernel_rfl) (fun _ _ _ h => h) (Or.inr ⟨by rfl, rfl⟩) (by assumption) ?_; (try simp only [Act.put, List.setIfInBounds_toArray, List.set_cons_zero, List.set_cons_succ])) | (refine WE_take 11 (v := ?_) rfl (by kernel_rfl) (fun _ _ _ h => h) (Or.inl ⟨by rfl, ?_⟩) (by assumption) ?_; rotate_left; (· intro w9 hSw; (try dsimp only at hSw); go_simp; try with_reducible rfl); (try simp only [Act.put, List.setIfInBounds_toArray, List.set_cons_zero, List.set_cons_succ]))
        first | (refine WE_take 12 (v := undef) rfl (by kernel_rfl) (fun _ _ _ h => h) (Or.inr ⟨by rfl, rfl⟩) (by assumption) ?_; (try simp only [Act.put, List.setIfInBounds_toArray, List.set_cons_zero, List.set_cons_succ])) | (refine WE_take 12 (v := ?_) rfl (by kernel_rfl) (fun _ _ _ h => h) (Or.inl ⟨by rfl, ?_⟩) (by assumption) ?_; rotate_left; (· intro w9 hSw; (try dsimp only at hSw); go_simp; try with_reducible rfl); (try simp only [Act.put, List.setIfInBounds_toArray, List.set_cons_zero, List.set_cons_succ]))
        first | (refine WE_take 13 (v := undef) rfl (by kernel_rfl) (fun _ _ _ h => h) (Or.inr ⟨by rfl, rfl⟩) (by assumption) ?_; (try simp only [Act.put, List.setIfInBounds_toArray, List.set_cons_zero, List.set_cons_succ])) | (refine WE_take 13 (v := ?_) rfl (by kernel_rfl) (fun _ _ _ h => h) (Or.inl ⟨by rfl, ?_⟩) (by assumption) ?_; rotate_left; (· intro w9 hSw; (try dsimp only at hSw); go_simp; try with_reducible rfl); (try simp only [Act.put, List.setIfInBounds_toArray, List.set_cons_zero, List.set_cons_succ]))
        first | (refine WE_take 14 (v := undef) rfl (by kernel_rfl) (fun _ _ _ h => h) (Or.inr ⟨by rfl, rfl⟩) (by assumption) ?_; (try simp only [Act.put, List.setIfInBounds_toArray, List.set_cons_zero, List.set_cons_succ])) | (refine WE_take 14 (v := ?_) rfl (by kernel_rfl) (fun _ _ _ h => h) (Or.inl ⟨by rfl, ?_⟩) (by assumption) ?_; rotate_left; (· intro w9 hSw; (try dsimp only at hSw); go_simp; try with_reducible rfl); (try simp only [Act.put, List.setIfInBounds_toArray, List.set_cons_zero, List.set_cons_succ]))
        first | (refine WE_take 15 (v := undef) rfl (by kernel_rfl) (fun _ _ _ h => h) (Or.inr ⟨by rfl, rfl⟩) (by assumption) ?_; (try simp only [Act.put, List.setIfInBounds_toArray, List.set_cons_zero, List.set_cons_succ])) | (refine WE_take 15 (v := ?_) rfl (by kernel_rfl) (fun _ _ _ h => h) (Or.inl ⟨by rfl, ?_⟩) (by assumption) ?_; rotate_left; (· intro w9 hSw; (try dsimp only at hSw); go_simp; try with_reducible rfl); (try simp only [Act.put, List.setIfInBounds_toArray, List.set_cons_zero, List.set_cons_succ]))
        first | (refine WE_take 16 (v := undef) rfl (by kernel_rfl) (fun _ _ _ h => h) (Or.inr ⟨by rfl, rfl⟩) (by assumption) ?_; (try simp only [Act.put, List.setIfInBounds_toArray, List.set_cons_zero, List.set_cons_succ])) | (refine WE_take 16 (v := ?_) rfl (by kernel_rfl) (fun _ _ _ h => h) (Or.inl ⟨by rfl, ?_⟩) (by assumption) ?_; rotate_left; (· intro w9 hSw; (try dsimp only at hSw); go_simp; try with_reducible rfl); (try simp only [Act.put, List.setIfInBounds_toArray, List.set_cons_zero, List.set_cons_succ]))
        first | (refine WE_take 17 (v := undef) rfl (by kernel_rfl) (fun _ _ _ h => h) (Or.inr ⟨by rfl, rfl⟩) (by assumption) ?_; (try simp only [Act.put, List.setIfInBounds_toArray, List.set_cons_zero, List.set_cons_succ])) | (refine WE_take 17 (v := ?_) rfl (by kernel_rfl) (fun _ _ _ h => h) (Or.inl ⟨by rfl, ?_⟩) (by assumption) ?_; rotate_left; (· intro w9 hSw; (try dsimp only at hSw); go_simp; try with_reducible rfl); (try simp only [Act.put, List.setIfInBounds_toArray, List.set_cons_zero, List.set_cons_succ]))
        refine WE_last rfl (by kernel_rfl) (fun K hK => ?_)
        go_simp
        refine hK.out _ _ ?_
        clear hK K
        go_wp2_with fail
        go_ret
        exact ⟨by rw [HM.out]; rfl, (keptTrans hkwz hHeld.1).toBelow⟩
      · have z1 : (sn == nd) = true := by simpa using e1
        have z2 : (sf == y) = false := by simpa using e2
        have HN := Lib.hid (HNX.out (fun h => e2 (congrArg Sd.f h.2)))
        clear e1 e2
        go_upto_region 9 with fail
        refine wp_region_E 18 (fun w' => SX0 wz w') (by kernel_rfl) (by (repeat' first | (with_reducible assumption) | (with_reducible exact SX0.init _) | (with_reducible exact SX0.refl _) | (with_reducible refine SX0.alloc ?_ _) | (with_reducible refine SX0.call ?_ (by assumption)) | (with_reducible refine SX0.set ?_ _ _ _ ?_) | (with_reducible refine SX0.drew ?_) | (simp; done) | omega | (simp; omega))) (fun hHeld => ?_)
        refine WE_take 0 (v := ?_) rfl (by kernel_rfl) (fun _ _ _ h => h) (Or.inl ⟨by rfl, ?_⟩) (by assumption) ?_; rotate_left; (· intro w9 hSw; (try dsimp only at hSw); go_simp; try with_reducible rfl); (try simp only [Act.put, List.setIfInBounds_toArray, List.set_cons_zero, List.set_cons_succ])
        refine WE_take 1 (v := ?_) rfl (by kernel_rfl) (fun _ _ _ h => h) (Or.inl ⟨by rfl, ?_⟩) (by assumption) ?_; rotate_left; (· intro w9 hSw; (try dsimp only at hSw); go_simp; try with_reducible rfl); (try simp only [Act.put, List.setIfInBounds_toArray, List.set_cons_zero, List.set_cons_succ])
        refine WE_take 2 (v := ?_) rfl (by kernel_rfl) (fun _ _ _ h => h) (Or.inl ⟨by rfl, ?_⟩) (by assumption) ?_; rotate_left; (· intro w9 hSw; (try dsimp only at hSw); go_simp; try with_reducible rfl); (try simp only [Act.put, List.setIfInBounds_toArray, List.set_cons_zero, List.set_cons_succ])
        first | (refine WE_take 3 (v := undef) rfl (by kernel_rfl) (fun _ _ _ h => h) (Or.inr ⟨by rfl, rfl⟩) (by assumption) ?_; (try simp only [Act.put, List.setIfInBounds_toArray, List.set_cons_zero, List.set_cons_succ])) | (refine WE_take 3 (v := ?_) rfl (by kernel_rfl) (fun _ _ _ h => h) (Or.inl ⟨by rfl, ?_⟩) (by assumption) ?_; rotate_left; (· intro w9 hSw; (try dsimp only at hSw); go_simp; try with_reducible rfl); (try simp only [Act.put, List.setIfInBounds_toArray, List.set_cons_zero, List.set_cons_succ]))
        first | (refine WE_take 4 (v := undef) rfl (by kernel_rfl) (fun _ _ _ h => h) (Or.inr ⟨by rfl, rfl⟩) (by assumption) ?_; (try simp only [Act.put, List.setIfInBounds_toArray, List.set_cons_zero, List.set_cons_succ])) | (refine WE_take 4 (v := ?_) rfl (by kernel_rfl) (fun _ _ _ h => h) (Or.inl ⟨by rfl, ?_⟩) (by assumption) ?_; rotate_left; (· intro w9 hSw; (try dsimp only at hSw); go_simp; try with_reducible rfl); (try simp only [Act.put, List.setIfInBounds_toArray, List.set_cons_zero, List.set_cons_succ]))
        first | (refine WE_take 5 (v := undef) rfl (by kernel_rfl) (fun _ _ _ h => h) (Or.inr ⟨by rfl, rfl⟩) (by assumption) ?_; (try simp only [Act.put, List.setIfInBounds_toArray, List.set_cons_zero, List.set_cons_succ])) | (refine WE_take 5 (v := ?_) rfl (by kernel_rfl) (fun _ _ _ h => h) (Or.inl ⟨by rfl, ?_⟩) (by assumption) ?_; rotate_left; (· intro w9 hSw; (try dsimp only at hSw); go_simp; try with_reducible rfl); (try simp only [Act.put, List.setIfInBounds_toArray, List.set_cons_zero, List.set_cons_succ]))
        first | (refine WE_take 6 (v := undef) rfl (by kernel_rfl) (fun _ _ _ h => h) (Or.inr ⟨by rfl, rfl⟩) (by assumption) ?_; (try simp only [Act.put, List.setIfInBounds_toArray, List.set_cons_zero, List.set_cons_succ])) | (refine WE_take 6 (v := ?_) rfl (by kernel_rfl) (fun _ _ _ h => h) (Or.inl ⟨by rfl, ?_⟩) (by assumption) ?_; rotate_left; (· intro w9 hSw; (try dsimp only at hSw); go_simp; try with_reducible rfl); (try simp only [Act.put, List.setIfInBounds_toArray, List.set_cons_zero, List.set_cons_succ]))
        first | (refine WE_take 7 (v := undef) rfl (by kernel_rfl) (fun _ _ _ h => h) (Or.inr ⟨by rfl, rfl⟩) (by assumption) ?_; (try simp only [Act.put, List.setIfInBounds_toArray, List.set_cons_zero, List.set_cons_succ])) | (refine WE_take 7 (v := ?_) rfl (by kernel_rfl) (fun _ _ _ h => h) (Or.inl ⟨by rfl, ?_⟩) (by assumption) ?_; rotate_left; (· intro w9 hSw; (try dsimp only at hSw); go_simp; try with_reducible rfl); (try simp only [Act.put, List.setIfInBounds_toArray, List.set_cons_zero, List.set_cons_succ]))
        first | (refine WE_take 8 (v := undef) rfl (by kernel_rfl) (fun _ _ _ h => h) (Or.inr ⟨by rfl, rfl⟩) (by assumption) ?_; (try simp only [Act.put, List.setIfInBounds_toArray, List.set_cons_zero, List.set_cons_succ])) | (refine WE_take 8 (v := ?_) rfl (by kernel_rfl) (fun _ _ _ h => h) (Or.inl ⟨by rfl, ?_⟩) (by assumption) ?_; rotate_left; (· intro w9 hSw; (try dsimp only at hSw); go_simp; try with_reducible rfl); (try simp only [Act.put, List.setIfInBounds_toArray, List.set_cons_zero, List.set_cons_succ]))
        first | (refine WE_take 9 (v := undef) rfl (by kernel_rfl) (fun _ _ _ h => h) (Or.inr ⟨by rfl, rfl⟩) (by assumption) ?_; (try simp only [Act.put, List.setIfInBounds_toArray, List.set_cons_zero, List.set_cons_succ])) | (refine WE_take 9 (v := ?_) rfl (by kernel_rfl) (fun _ _ _ h => h) (Or.inl ⟨by rfl, ?_⟩) (by assumption) ?_; rotate_left; (· intro w9 hSw; (try dsimp only at hSw); go_simp; try with_reducible rfl); (try simp only [Act.put, List.setIfInBounds_toArray, List.set_cons_zero, List.set_cons_succ]))
        first | (refine WE_take 10 (v := undef) rfl (by kernel_rfl) (fun _ _ _ h => h) (Or.inr ⟨by rfl, rfl⟩) (by assumption) ?_; (try simp only [Act.put, List.setIfInBounds_toArray, List.set_cons_zero, List.set_cons_succ])) | (refine WE_take 10 (v := ?_) rfl (by kernel_rfl) (fun _ _ _ h => h) (Or.inl ⟨by rfl, ?_⟩) (by assumption) ?_; rotate_left; (· intro w9 hSw; (try dsimp only at hSw); go_simp; try with_reducible rfl); (try simp only [Act.put, List.setIfInBounds_toArray, List.set_cons_zero, List.set_cons_succ]))
        first | (refine WE_take 11 (v := undef) rfl (by kernel_rfl) (fun _ _ _ h => h) (Or.inr ⟨by rfl, rfl⟩) (by assumption) ?_; (try simp only [Act.put, List.setIfInBounds_toArray, List.set_cons_zero, List.set_cons_succ])) | (refine WE_take 11 (v := ?_) rfl (by kernel_rfl) (fun _ _ _ h => h) (Or.inl ⟨by rfl, ?_⟩) (by assumption) ?_; rotate_left; (· intro w9 hSw; (try dsimp only at hSw); go_simp; try with_reducible rfl); (try simp only [Act.put, List.setIfInBounds_toArray, List.set_cons_zero, List.set_cons_succ]))
        first | (refine WE_take 12 (v := undef) rfl (by kernel_rfl) (fun _ _ _ h => h) (Or.inr ⟨by rfl, rfl⟩) (by assumption) ?_; (try simp only [Act.put, List.setIfInBounds_toArray, List.set_cons_zero, List.set_cons_succ])) | (refine WE_take 12 (v := ?_) rfl (by kernel_rfl) (fun _ _ _ h => h) (Or.inl ⟨by rfl, ?_⟩) (by assumption) ?_; rotate_left; (· intro w9 hSw; (try dsimp only at hSw); go_simp; try with_reducible rfl); (try simp only [Act.put, List.setIfInBounds_toArray, List.set_cons_zero, List.set_cons_succ]))
        first | (refine WE_take 13 (v := undef) rfl (by kernel_rfl) (fun _ _ _ h => h) (Or.inr ⟨by rfl, rfl⟩) (by assumption) ?_; (try simp only [Act.put, List.setIfInBounds_toArray, List.set_cons_zero, List.set_cons_succ])) | (refine WE_take 13 (v := ?_) rfl (by kernel_rfl) (fun _ _ _ h => h) (Or.inl ⟨by rfl, ?_⟩) (by assumption) ?_; rotate_left; (· intro w9 hSw; (try dsimp only at hSw); go_simp; try with_reducible rfl); (try simp only [Act.put, List.setIfInBounds_toArray, List.set_cons_zero, List.set_cons_succ]))
        first | (refine WE_take 14 (v := undef) rfl (by kernel_rfl) (fun _ _ _ h => h) (Or.inr ⟨by rfl, rfl⟩) (by assumption) ?_; (try simp only [Act.put, List.setIfInBounds_toArray, List.set_cons_zero, List.set_cons_succ])) | (refine WE_take 14 (v := ?_) rfl (by kernel_rfl) (fun _ _ _ h => h) (Or.inl ⟨by rfl, ?_⟩) (by assumption) ?_; rotate_left; (· intro w9 hSw; (try dsimp only at hSw); go_simp; try with_reducible rfl); (try simp only [Act.put, List.setIfInBounds_toArray, List.set_cons_zero, List.set_cons_succ]))
        first | (refine WE_take 15 (v := undef) rfl (by kernel_rfl) (fun _ _ _ h => h) (Or.inr ⟨by rfl, rfl⟩) (by assumption) ?_; (try simp only [Act.put, List.setIfInBounds_toArray, List.set_cons_zero, List.set_cons_succ])) | (refine WE_take 15 (v := ?_) rfl (by kernel_rfl) (fun _ _ _ h => h) (Or.inl ⟨by rfl, ?_⟩) (by assumption) ?_; rotate_left; (· intro w9 hSw; (try dsimp only at hSw); go_simp; try with_reducible rfl); (try simp only [Act.put, List.setIfInBounds_toArray, List.set_cons_zero, List.set_cons_succ]))
        first | (refine WE_take 16 (v := undef) rfl (by kernel_rfl) (fun _ _ _ h => h) (Or.inr ⟨by rfl, rfl⟩) (by assumption) ?_; (try simp only [Act.put, List.setIfInBounds_toArray, List.set_cons_zero, List.set_cons_succ])) | (refine WE_take 16 (v := ?_) rfl (by kernel_rfl) (fun _ _ _ h => h) (Or.inl ⟨by rfl, ?_⟩) (by assumption) ?_; rotate_left; (· intro w9 hSw; (try dsimp only at hSw); go_simp; try with_reducible rfl); (try simp only [Act.put, List.setIfInBounds_toArray, List.set_cons_zero, List.set_cons_succ]))
        first | (refine WE_take 17 (v := undef) rfl (by kernel_rfl) (fun _ _ _ h => h) (Or.inr ⟨by rfl, rfl⟩) (by assumption) ?_; (try simp only [Act.put, List.setIfInBounds_toArray, List.set_cons_zero, List.set_cons_succ])) | (refine WE_take 17 (v := ?_) rfl (by kernel_rfl) (fun _ _ _ h => h) (Or.inl ⟨by rfl, ?_⟩) (by assumption) ?_; rotate_left; (· intro w9 hSw; (try dsimp only at hSw); go_simp; try with_reducible rfl); (try simp only [Act.put, List.setIfInBounds_toArray, List.set_cons_zero, List.set_cons_succ]))
        refine WE_last rfl (by kernel_rfl) (fun K hK => ?_)
        go_simp
        refine hK.out _ _ ?_
        clear hK K
        go_wp2_with fail
        exact ⟨⟨q + 1, by omega, by go_num, keptTrans hkz hHeld.1, (by first | exact HN | exact Lib.hid (fun z hz h9 => HN.out z hz ⟨rfl, h9.2⟩))⟩, by simp [intOf]; omega⟩
    · have z1 : (sn == nd) = false := by simpa using e1
      have HN := Lib.hid (HNX.out (fun h => e1 (congrArg Sd.n h.2)))
      clear e1
      go_upto_region 9 with fail
      refine wp_region_E 18 (fun w' => SX0 wz w') (by kernel_rfl) (by (repeat' first | (with_reducible assumption) | (with_reducible exact SX0.init _) | (with_reducible exact SX0.refl _) | (with_reducible refine SX0.alloc ?_ _) | (with_reducible refine SX0.call ?_ (by assumption)) | (with_reducible refine SX0.set ?_ _ _ _ ?_) | (with_reducible refine SX0.drew ?_) | (simp; done) | omega | (simp; omega))) (fun hHeld => ?_)
      refine WE_take 0 (v := ?_) rfl (by kernel_rfl) (fun _ _ _ h => h) (Or.inl ⟨by rfl, ?_⟩) (by assumption) ?_; rotate_left; (· intro w9 hSw; (try dsimp only at hSw); go_simp; try with_reducible rfl); (try simp only [Act.put, List.setIfInBounds_toArray, List.set_cons_zero, List.set_cons_succ])
      refine WE_take 1 (v := ?_) rfl (by kernel_rfl) (fun _ _ _ h => h) (Or.inl ⟨by rfl, ?_⟩) (by assumption) ?_; rotate_left; (· intro w9 hSw; (try dsimp only at hSw); go_simp; try with_reducible rfl); (try simp only [Act.put, List.setIfInBounds_toArray, List.set_cons_zero, List.set_cons_succ])
      refine WE_take 2 (v := ?_) rfl (by kernel_rfl) (fun _ _ _ h => h) (Or.inl ⟨by rfl, ?_⟩) (by assumption) ?_; rotate_left; (· intro w9 hSw; (try dsimp only at hSw); go_simp; try with_reducible rfl); (try simp only [Act.put, List.setIfInBounds_toArray, List.set_cons_zero, List.set_cons_succ])
      first | (refine WE_take 3 (v := undef) rfl (by kernel_rfl) (fun _ _ _ h => h) (Or.inr ⟨by rfl, rfl⟩) (by assumption) ?_; (try simp only [Act.put, List.setIfInBounds_toArray, List.set_cons_zero, List.set_cons_succ])) | (refine WE_take 3 (v := ?_) rfl (by kernel_rfl) (fun _ _ _ h => h) (Or.inl ⟨by rfl, ?_⟩) (by assumption) ?_; rotate_left; (· intro w9 hSw; (try dsimp only at hSw); go_simp; try with_reducible rfl); (try simp only [Act.put, List.setIfInBounds_toArray, List.set_cons_zero, List.set_cons_succ]))
      first | (refine WE_take 4 (v := undef) rfl (by kernel_rfl) (fun _ _ _ h => h) (Or.inr ⟨by rfl, rfl⟩) (by assumption) ?_; (try simp only [Act.put, List.setIfInBounds_toArray, List.set_cons_zero, List.set_cons_succ])) | (refine WE_take 4 (v := ?_) rfl (by kernel_rfl) (fun _ _ _ h => h) (Or.inl ⟨by rfl, ?_⟩) (by assumption) ?_; rotate_left; (· intro w9 hSw; (try dsimp only at hSw); go_simp; try with_reducible rfl); (try simp only [Act.put, List.setIfInBounds_toArray, List.set_cons_zero, List.set_cons_succ]))
      first | (refine WE_take 5 (v := undef) rfl (by kernel_rfl) (fun _ _ _ h => h) (Or.inr ⟨by rfl, rfl⟩) (by assumption) ?_; (try simp only [Act.put, List.setIfInBounds_toArray, List.set_cons_zero, List.set_cons_succ])) | (refine WE_take 5 (v := ?_) rfl (by kernel_rfl) (fun _ _ _ h => h) (Or.inl ⟨by rfl, ?_⟩) (by assumption) ?_; rotate_left; (· intro w9 hSw; (try dsimp only at hSw); go_simp; try with_reducible rfl); (try simp only [Act.put, List.setIfInBounds_toArray, List.set_cons_zero, List.set_cons_succ]))
      first | (refine WE_take 6 (v := undef) rfl (by kernel_rfl) (fun _ _ _ h => h) (Or.inr ⟨by rfl, rfl⟩) (by assumption) ?_; (try simp only [Act.put, List.setIfInBounds_toArray, List.set_cons_zero, List.set_cons_succ])) | (refine WE_take 6 (v := ?_) rfl (by kernel_rfl) (fun _ _ _ h => h) (Or.inl ⟨by rfl, ?_⟩) (by assumption) ?_; rotate_left; (· intro w9 hSw; (try dsimp only at hSw); go_simp; try with_reducible rfl); (try simp only [Act.put, List.setIfInBounds_toArray, List.set_cons_zero, List.set_cons_succ]))
      first | (refine WE_take 7 (v := undef) rfl (by kernel_rfl) (fun _ _ _ h => h) (Or.inr ⟨by rfl, rfl⟩) (by assumption) ?_; (try simp only [Act.put, List.setIfInBounds_toArray, List.set_cons_zero, List.set_cons_succ])) | (refine WE_take 7 (v := ?_) rfl (by kernel_rfl) (fun _ _ _ h => h) (Or.inl ⟨by rfl, ?_⟩) (by assumption) ?_; rotate_left; (· intro w9 hSw; (try dsimp only at hSw); go_simp; try with_reducible rfl); (try simp only [Act.put, List.setIfInBounds_toArray, List.set_cons_zero, List.set_cons_succ]))
      first | (refine WE_take 8 (v := undef) rfl (by kernel_rfl) (fun _ _ _ h => h) (Or.inr ⟨by rfl, rfl⟩) (by assumption) ?_; (try simp only [Act.put, List.setIfInBounds_toArray, List.set_cons_zero, List.set_cons_succ])) | (refine WE_take 8 (v := ?_) rfl (by kernel_rfl) (fun _ _ _ h => h) (Or.inl ⟨by rfl, ?_⟩) (by assumption) ?_; rotate_left; (· intro w9 hSw; (try dsimp only at hSw); go_simp; try with_reducible rfl); (try simp only [Act.put, List.setIfInBounds_toArray, List.set_cons_zero, List.set_cons_succ]))
      first | (refine WE_take 9 (v := undef) rfl (by kernel_rfl) (fun _ _ _ h => h) (Or.inr ⟨by rfl, rfl⟩) (by assumption) ?_; (try simp only [Act.put, List.setIfInBounds_toArray, List.set_cons_zero, List.set_cons_succ])) | (refine WE_take 9 (v := ?_) rfl (by kernel_rfl) (fun _ _ _ h => h) (Or.inl ⟨by rfl, ?_⟩) (by assumption) ?_; rotate_left; (· intro w9 hSw; (try dsimp only at hSw); go_simp; try with_reducible rfl); (try simp only [Act.put, List.setIfInBounds_toArray, List.set_cons_zero, List.set_cons_succ]))
      first | (refine WE_take 10 (v := undef) rfl (by kernel_rfl) (fun _ _ _ h => h) (Or.inr ⟨by rfl, rfl⟩) (by assumption) ?_; (try simp only [Act.put, List.setIfInBounds_toArray, List.set_cons_zero, List.set_cons_succ])) | (refine WE_take 10 (v := ?_) rfl (by kernel_rfl) (fun _ _ _ h => h) (Or.inl ⟨by rfl, ?_⟩) (by assumption) ?_; rotate_left; (· intro w9 hSw; (try dsimp only at hSw); go_simp; try with_reducible rfl); (try simp only [Act.put, List.setIfInBounds_toArray, List.set_cons_zero, List.set_cons_succ]))
      first | (refine WE_take 11 (v := undef) rfl (by kernel_rfl) (fun _ _ _ h => h) (Or.inr ⟨by rfl, rfl⟩) (by assumption) ?_; (try simp only [Act.put, List.setIfInBounds_toArray, List.set_cons_zero, List.set_cons_succ])) | (refine WE_take 11 (v := ?_) rfl (by kernel_rfl) (fun _ _ _ h => h) (Or.inl ⟨by rfl, ?_⟩) (by assumption) ?_; rotate_left; (· intro w9 hSw; (try dsimp only at hSw); go_simp; try with_reducible rfl); (try simp only [Act.put, List.setIfInBounds_toArray, List.set_cons_zero, List.set_cons_succ]))
      first | (refine WE_take 12 (v := undef) rfl (by kernel_rfl) (fun _ _ _ h => h) (Or.inr ⟨by rfl, rfl⟩) (by assumption) ?_; (try simp only [Act.put, List.setIfInBounds_toArray, List.set_cons_zero, List.set_cons_succ])) | (refine WE_take 12 (v := ?_) rfl (by kernel_rfl) (fun _ _ _ h => h) (Or.inl ⟨by rfl, ?_⟩) (by assumption) ?_; rotate_left; (· intro w9 hSw; (try dsimp only at hSw); go_simp; try with_reducible rfl); (try simp only [Act.put, List.setIfInBounds_toArray, List.set_cons_zero, List.set_cons_succ]))
      first | (refine WE_take 13 (v := undef) rfl (by kernel_rfl) (fun _ _ _ h => h) (Or.inr ⟨by rfl, rfl⟩) (by assumption) ?_; (try simp only [Act.put, List.setIfInBounds_toArray, List.set_cons_zero, List.set_cons_succ])) | (refine WE_take 13 (v := ?_) rfl (by kernel_rfl) (fun _ _ _ h => h) (Or.inl ⟨by rfl, ?_⟩) (by assumption) ?_; rotate_left; (· intro w9 hSw; (try dsimp only at hSw); go_simp; try with_reducible rfl); (try simp only [Act.put, List.setIfInBounds_toArray, List.set_cons_zero, List.set_cons_succ]))
      first | (refine WE_take 14 (v := undef) rfl (by kernel_rfl) (fun _ _ _ h => h) (Or.inr ⟨by rfl, rfl⟩) (by assumption) ?_; (try simp only [Act.put, List.setIfInBounds_toArray, List.set_cons_zero, List.set_cons_succ])) | (refine WE_take 14 (v := ?_) rfl (by kernel_rfl) (fun _ _ _ h => h) (Or.inl ⟨by rfl, ?_⟩) (by assumption) ?_; rotate_left; (· intro w9 hSw; (try dsimp only at hSw); go_simp; try with_reducible rfl); (try simp only [Act.put, List.setIfInBounds_toArray, List.set_cons_zero, List.set_cons_succ]))
      first | (refine WE_take 15 (v := undef) rfl (by kernel_rfl) (fun _ _ _ h => h) (Or.inr ⟨by rfl, rfl⟩) (by assumption) ?_; (try simp only [Act.put, List.setIfInBounds_toArray, List.set_cons_zero, List.set_cons_succ])) | (refine WE_take 15 (v := ?_) rfl (by kernel_rfl) (fun _ _ _ h => h) (Or.inl ⟨by rfl, ?_⟩) (by assumption) ?_; rotate_left; (· intro w9 hSw; (try dsimp only at hSw); go_simp; try with_reducible rfl); (try simp only [Act.put, List.setIfInBounds_toArray, List.set_cons_zero, List.set_cons_succ]))
      first | (refine WE_take 16 (v := undef) rfl (by kernel_rfl) (fun _ _ _ h => h) (Or.inr ⟨by rfl, rfl⟩) (by assumption) ?_; (try simp only [Act.put, List.setIfInBounds_toArray, List.set_cons_zero, List.set_cons_succ])) | (refine WE_take 16 (v := ?_) rfl (by kernel_rfl) (fun _ _ _ h => h) (Or.inl ⟨by rfl, ?_⟩) (by assumption) ?_; rotate_left; (· intro w9 hSw; (try dsimp only at hSw); go_simp; try with_reducible rfl); (try simp only [Act.put, List.setIfInBounds_toArray, List.set_cons_zero, List.set_cons_succ]))
      first | (refine WE_take 17 (v := undef) rfl (by kernel_rfl) (fun _ _ _ h => h) (Or.inr ⟨by rfl, rfl⟩) (by assumption) ?_; (try simp only [Act.put, List.setIfInBounds_toArray, List.set_cons_zero, List.set_cons_succ])) | (refine WE_take 17 (v := ?_) rfl (by kernel_rfl) (fun _ _ _ h => h) (Or.inl ⟨by rfl, ?_⟩) (by assumption) ?_; rotate_left; (· intro w9 hSw; (try dsimp only at hSw); go_simp; try with_reducible rfl); (try simp only [Act.put, List.setIfInBounds_toArray, List.set_cons_zero, List.set_cons_succ]))
      refine WE_last rfl (by kernel_rfl) (fun K hK => ?_)
      go_simp
      refine hK.out _ _ ?_
      clear hK K
      go_wp2_with fail
      exact ⟨⟨q + 1, by omega, by go_num, keptTrans hkz hHeld.1, (by first | exact HN | exact Lib.hid (fun z hz h9 => HN.out z hz ⟨rfl, h9.2⟩))⟩, by simp [intOf]; omega⟩
  · have z1 : (x == 0) = false := by simpa using hx
    have HN := Lib.hid (HNX.out (fun h => hx h.1))
    clear hx
    go_upto_region 9 with fail
    refine wp_region_E 18 (fun w' => SX0 wz w') (by kernel_rfl) (by (repeat' first | (with_reducible assumption) | (with_reducible exact SX0.init _) | (with_reducible exact SX0.refl _) | (with_reducible refine SX0.alloc ?_ _) | (with_reducible refine SX0.call ?_ (by assumption)) | (with_reducible refine SX0.set ?_ _ _ _ ?_) | (with_reducible refine SX0.drew ?_) | (simp; done) | omega | (simp; omega))) (fun hHeld => ?_)
    refine WE_take 0 (v := ?_) rfl (by kernel_rfl) (fun _ _ _ h => h) (Or.inl ⟨by rfl, ?_⟩) (by assumption) ?_; rotate_left; (· intro w9 hSw; (try dsimp only at hSw); go_simp; try with_reducible rfl); (try simp only [Act.put, List.setIfInBounds_toArray, List.set_cons_zero, List.set_cons_succ])
    refine WE_take 1 (v := ?_) rfl (by kernel_rfl) (fun _ _ _ h => h) (Or.inl ⟨by rfl, ?_⟩) (by assumption) ?_; rotate_left; (· intro w9 hSw; (try dsimp only at hSw); go_simp; try with_reducible rfl); (try simp only [Act.put, List.setIfInBounds_toArray, List.set_cons_zero, List.set_cons_succ])
    refine WE_take 2 (v := ?_) rfl (by kernel_rfl) (fun _ _ _ h => h) (Or.inl ⟨by rfl, ?_⟩) (by assumption) ?_; rotate_left; (· intro w9 hSw; (try dsimp only at hSw); go_simp; try with_reducible rfl); (try simp only [Act.put, List.setIfInBounds_toArray, List.set_cons_zero, List.set_cons_succ])
    first | (refine WE_take 3 (v := undef) rfl (by kernel_rfl) (fun _ _ _ h => h) (Or.inr ⟨by rfl, rfl⟩) (by assumption) ?_; (try simp only [Act.put, List.setIfInBounds_toArray, List.set_cons_zero, List.set_cons_succ])) | (refine WE_take 3 (v := ?_) rfl (by kernel_rfl) (fun _ _ _ h => h) (Or.inl ⟨by rfl, ?_⟩) (by assumption) ?_; rotate_left; (· intro w9 hSw; (try dsimp only at hSw); go_simp; try with_reducible rfl); (try simp only [Act.put, List.setIfInBounds_toArray, List.set_cons_zero, List.set_cons_succ]))
    first | (refine WE_take 4 (v := undef) rfl (by kernel_rfl) (fun _ _ _ h => h) (Or.inr ⟨by rfl, rfl⟩) (by assumption) ?_; (try simp only [Act.put, List.setIfInBounds_toArray, List.set_cons_zero, List.set_cons_succ])) | (refine WE_take 4 (v := ?_) rfl (by kernel_rfl) (fun _ _ _ h => h) (Or.inl ⟨by rfl, ?_⟩) (by assumption) ?_; rotate_left; (· intro w9 hSw; (try dsimp only at hSw); go_simp; try with_reducible rfl); (try simp only [Act.put, List.setIfInBounds_toArray, List.set_cons_zero, List.set_cons_succ]))
    first | (refine WE_take 5 (v := undef) rfl (by kernel_rfl) (fun _ _ _ h => h) (Or.inr ⟨by rfl, rfl⟩) (by assumption) ?_; (try simp only [Act.put, List.setIfInBounds_toArray, List.set_cons_zero, List.set_cons_succ])) | (refine WE_take 5 (v := ?_) rfl (by kernel_rfl) (fun _ _ _ h => h) (Or.inl ⟨by rfl, ?_⟩) (by assumption) ?_; rotate_left; (· intro w9 hSw; (try dsimp only at hSw); go_simp; try with_reducible rfl); (try simp only [Act.put, List.setIfInBounds_toArray, List.set_cons_zero, List.set_cons_succ]))
    first | (refine WE_take 6 (v := undef) rfl (by kernel_rfl) (fun _ _ _ h => h) (Or.inr ⟨by rfl, rfl⟩) (by assumption) ?_; (try simp only [Act.put, List.setIfInBounds_toArray, List.set_cons_zero, List.set_cons_succ])) | (refine WE_take 6 (v := ?_) rfl (by kernel_rfl) (fun _ _ _ h => h) (Or.inl ⟨by rfl, ?_⟩) (by assumption) ?_; rotate_left; (· intro w9 hSw; (try dsimp only at hSw); go_simp; try with_reducible rfl); (try simp only [Act.put, List.setIfInBounds_toArray, List.set_cons_zero, List.set_cons_succ]))
    first | (refine WE_take 7 (v := undef) rfl (by kernel_rfl) (fun _ _ _ h => h) (Or.inr ⟨by rfl, rfl⟩) (by assumption) ?_; (try simp only [Act.put, List.setIfInBounds_toArray, List.set_cons_zero, List.set_cons_succ])) | (refine WE_take 7 (v := ?_) rfl (by kernel_rfl) (fun _ _ _ h => h) (Or.inl ⟨by rfl, ?_⟩) (by assumption) ?_; rotate_left; (· intro w9 hSw; (try dsimp only at hSw); go_simp; try with_reducible rfl); (try simp only [Act.put, List.setIfInBounds_toArray, List.set_cons_zero, List.set_cons_succ]))
    first | (refine WE_take 8 (v := undef) rfl (by kernel_rfl) (fun _ _ _ h => h) (Or.inr ⟨by rfl, rfl⟩) (by assumption) ?_; (try simp only [Act.put, List.setIfInBounds_toArray, List.set_cons_zero, List.set_cons_succ])) | (refine WE_take 8 (v := ?_) rfl (by kernel_rfl) (fun _ _ _ h => h) (Or.inl ⟨by rfl, ?_⟩) (by assumption) ?_; rotate_left; (· intro w9 hSw; (try dsimp only at hSw); go_simp; try with_reducible rfl); (try simp only [Act.put, List.setIfInBounds_toArray, List.set_cons_zero, List.set_cons_succ]))
    first | (refine WE_take 9 (v := undef) rfl (by kernel_rfl) (fun _ _ _ h => h) (Or.inr ⟨by rfl, rfl⟩) (by assumption) ?_; (try simp only [Act.put, List.setIfInBounds_toArray, List.set_cons_zero, List.set_cons_succ])) | (refine WE_take 9 (v := ?_) rfl (by kernel_rfl) (fun _ _ _ h => h) (Or.inl ⟨by rfl, ?_⟩) (by assumption) ?_; rotate_left; (· intro w9 hSw; (try dsimp only at hSw); go_simp; try with_reducible rfl); (try simp only [Act.put, List.setIfInBounds_toArray, List.set_cons_zero, List.set_cons_succ]))
    first | (refine WE_take 10 (v := undef) rfl (by kernel_rfl) (fun _ _ _ h => h) (Or.inr ⟨by rfl, rfl⟩) (by assumption) ?_; (try simp only [Act.put, List.setIfInBounds_toArray, List.set_cons_zero, List.set_cons_succ])) | (refine WE_take 10 (v := ?_) rfl (by kernel_rfl) (fun _ _ _ h => h) (Or.inl ⟨by rfl, ?_⟩) (by assumption) ?_; rotate_left; (· intro w9 hSw; (try dsimp only at hSw); go_simp; try with_reducible rfl); (try simp only [Act.put, List.setIfInBounds_toArray, List.set_cons_zero, List.set_cons_succ]))
    first | (refine WE_take 11 (v := undef) rfl (by kernel_rfl) (fun _ _ _ h => h) (Or.inr ⟨by rfl, rfl⟩) (by assumption) ?_; (try simp only [Act.put, List.setIfInBounds_toArray, List.set_cons_zero, List.set_cons_succ])) | (refine WE_take 11 (v := ?_) rfl (by kernel_rfl) (fun _ _ _ h => h) (Or.inl ⟨by rfl, ?_⟩) (by assumption) ?_; rotate_left; (· intro w9 hSw; (try dsimp only at hSw); go_simp; try with_reducible rfl); (try simp only [Act.put, List.setIfInBounds_toArray, List.set_cons_zero, List.set_cons_succ]))
    first | (refine WE_take 12 (v := undef) rfl (by kernel_rfl) (fun _ _ _ h => h) (Or.inr ⟨by rfl, rfl⟩) (by assumption) ?_; (try simp only [Act.put, List.setIfInBounds_toArray, List.set_cons_zero, List.set_cons_succ])) | (refine WE_take 12 (v := ?_) rfl (by kernel_rfl) (fun _ _ _ h => h) (Or.inl ⟨by rfl, ?_⟩) (by assumption) ?_; rotate_left; (· intro w9 hSw; (try dsimp only at hSw); go_simp; try with_reducible rfl); (try simp only [Act.put, List.setIfInBounds_toArray, List.set_cons_zero, List.set_cons_succ]))
    first | (refine WE_take 13 (v := undef) rfl (by kernel_rfl) (fun _ _ _ h => h) (Or.inr ⟨by rfl, rfl⟩) (by assumption) ?_; (try simp only [Act.put, List.setIfInBounds_toArray, List.set_cons_zero, List.set_cons_succ])) | (refine WE_take 13 (v := ?_) rfl (by kernel_rfl) (fun _ _ _ h => h) (Or.inl ⟨by rfl, ?_⟩) (by assumption) ?_; rotate_left; (· intro w9 hSw; (try dsimp only at hSw); go_simp; try with_reducible rfl); (try simp only [Act.put, List.setIfInBounds_toArray, List.set_cons_zero, List.set_cons_succ]))
    first | (refine WE_take 14 (v := undef) rfl (by kernel_rfl) (fun _ _ _ h => h) (Or.inr ⟨by rfl, rfl⟩) (by assumption) ?_; (try simp only [Act.put, List.setIfInBounds_toArray, List.set_cons_zero, List.set_cons_succ])) | (refine WE_take 14 (v := ?_) rfl (by kernel_rfl) (fun _ _ _ h => h) (Or.inl ⟨by rfl, ?_⟩) (by assumption) ?_; rotate_left; (· intro w9 hSw; (try dsimp only at hSw); go_simp; try with_reducible rfl); (try simp only [Act.put, List.setIfInBounds_toArray, List.set_cons_zero, List.set_cons_succ]))
    first | (refine WE_take 15 (v := undef) rfl (by kernel_rfl) (fun _ _ _ h => h) (Or.inr ⟨by rfl, rfl⟩) (by assumption) ?_; (try simp only [Act.put, List.setIfInBounds_toArray, List.set_cons_zero, List.set_cons_succ])) | (refine WE_take 15 (v := ?_) rfl (by kernel_rfl) (fun _ _ _ h => h) (Or.inl ⟨by rfl, ?_⟩) (by assumption) ?_; rotate_left; (· intro w9 hSw; (try dsimp only at hSw); go_simp; try with_reducible rfl); (try simp only [Act.put, List.setIfInBounds_toArray, List.set_cons_zero, List.set_cons_succ]))
    first | (refine WE_take 16 (v := undef) rfl (by kernel_rfl) (fun _ _ _ h => h) (Or.inr ⟨by rfl, rfl⟩) (by assumption) ?_; (try simp only [Act.put, List.setIfInBounds_toArray, List.set_cons_zero, List.set_cons_succ])) | (refine WE_take 16 (v := ?_) rfl (by kernel_rfl) (fun _ _ _ h => h) (Or.inl ⟨by rfl, ?_⟩) (by assumption) ?_; rotate_left; (· intro w9 hSw; (try dsimp only at hSw); go_simp; try with_reducible rfl); (try simp only [Act.put, List.setIfInBounds_toArray, List.set_cons_zero, List.set_cons_succ]))
    first | (refine WE_take 17 (v := undef) rfl (by kernel_rfl) (fun _ _ _ h => h) (Or.inr ⟨by rfl, rfl⟩) (by assumption) ?_; (try simp only [Act.put, List.setIfInBounds_toArray, List.set_cons_zero, List.set_cons_succ])) | (refine WE_take 17 (v := ?_) rfl (by kernel_rfl) (fun _ _ _ h => h) (Or.inl ⟨by rfl, ?_⟩) (by assumption) ?_; rotate_left; (· intro w9 hSw; (try dsimp only at hSw); go_simp; try with_reducible rfl); (try simp only [Act.put, List.setIfInBounds_toArray, List.set_cons_zero, List.set_cons_succ]))
    refine WE_last rfl (by kernel_rfl) (fun K hK => ?_)
    go_simp
    refine hK.out _ _ ?_
    clear hK K
    go_wp2_with fail
    exact ⟨⟨q + 1, by omega, by go_num, keptTrans hkz hHeld.1, (by first | exact HN | exact Lib.hid (fun z hz h9 => HN.out z hz ⟨rfl, h9.2⟩))⟩, by simp [intOf]; omega⟩

set_option maxRecDepth 100000 in
set_option maxHeartbeats 8000000 in
theorem trail_any : ∀ (n5 : Nat) (A1 A2 A3 A4 A5 : Option Addr) (n1 c1 n2 c2 n3 c3 n4 c4 c5 : Nat) (mn F d : Int) (ns : List Sp.Nd) (es : List Sp.Ed) (ls : List (List Pr)) (sd : List Sd) (path : List Int) (w : World) (_hg : Gr w A1 n1 A2 n2 ns es) (_hf : Flw w A3 n3 ls) (_hs : Sds w A4 n4 sd) (_hp : Ints w A5 n5 path) (_hn4 : n4 ≤ 1000) (_hn5 : n5 ≤ c5)
    (_hpe : pbErr ⟨ns, es, mn, F, ls, sd⟩ = 0) (_hfo : (Sp.followS ns es mn mn path).1 = 0) (_hd : d = 0 ∨ d ∈ alongF ⟨ns, es, mn, F, ls, sd⟩ path),
    Calls Tryz.prog 7 #[.agg #[.slice A1 n1 c1, .slice A2 n2 c2, .int .i64 mn, .int .i64 F, .slice A3 n3 c3, .slice A4 n4 c4], .slice A5 n5 c5, .int .i64 d] w fun e w' =>
      ∃ Q m c fs, e = .returned (.tuple #[.slice Q m c, .bool true]) ∧ w'.ownsRow w.heap.size 3 1 (.slice Q m c) m (fs.map (Value.int .i64)) ∧ m = n5 + 1 ∧ TrD ⟨ns, es, mn, F, ls, sd⟩ path d fs ∧ Below w.heap.size w w' := by
  intro n5
  induction n5 with
  | zero =>
    intro A1 A2 A3 A4 A5 n1 c1 n2 c2 n3 c3 n4 c4 c5 mn F d ns es ls sd path w hg hf hs hp hn4 hn5 hpe hfo hd
    have HG := Lib.hid hg
    have HF := Lib.hid hf
    have HS := Lib.hid hs
    have hpl : path = [] := List.length_eq_zero_iff.1 hp.1
    subst hpl
    have HO := Lib.hid (ok_of hpe)
    have HT := Lib.hid (trD_nil HO.out hd)
    have HER := Lib.hid (trD_err hpe HT.out.1 hfo)
    clear hg hf hs hp hpe hfo hd
    go_enter Tryz.func7, Tryz.ntmps7
    go_upto_region 1 with fail
    refine wp_named (fun W => ∃ b0, w.heap.size = b0 ∧ Blk W b0 [.slice A1 n1 c1, .slice A2 n2 c2, .int .i64 mn, .int .i64 F, .slice A3 n3 c3, .slice A4 n4 c4] ∧ Below w.heap.size w W) ⟨_, rfl, ?_, ?_⟩ ?_
    · exact Blk.new _ _ _ _ (by first | rfl | simp)
    · go_grown
    rintro W ⟨b0, e0, B0, hB⟩
    rw [e0]
    have G0 : w.heap.size ≤ b0 := by omega
    clear e0
    have ⟨L0, C0, F0⟩ := B0
    have hkW : Kept [] w W := (Kept.refl _ _).call hB
    have HOWN := Lib.hid (World.ownsRow_lit (base := w.heap.size) (e := 3) (size := 1) W #[.int .i64 d] 1 hkW.size (by unfold maxLen; omega) rfl)
    have HI1 := Lib.hid (Ints.empty W none)
    go_wp2_with fail
    refine (rtrail_any A1 A2 A3 A4 none (some ⟨W.heap.size + 1, 0, none⟩) n1 c1 n2 c2 n3 c3 n4 c4 0 0 1 1 mn F ns es ls sd [] [d] _ ((HG.out.kept hkW).kept (((Kept.refl _ _).alloc _).alloc _)) (HF.out.later (keptTrans hkW (((Kept.refl _ _).alloc _).alloc _)).toBelow) (HS.out.later (keptTrans hkW (((Kept.refl _ _).alloc _).alloc _)).toBelow) (Ints.empty _ _) (ints_two W 3 [d] [d]).2 hn4 (by omega) (by omega) 0 HER.out).mono ?_
    rintro e w1 ⟨rfl, hb1⟩
    have hk1 : Kept [] W w1 := (((Kept.refl _ _).alloc _).alloc _).call hb1
    have HOWN1 := Lib.hid (own_keptT (X := []) HOWN.out (((Kept.refl _ _).alloc _).call hb1) (by simp))
    go_wp2_with fail
    go_ret2
    exact ⟨some ⟨W.heap.size, 0, none⟩, 1, 1, [d], rfl, HOWN1.out, rfl, HT.out, (keptTrans hkW hk1).toBelow⟩
  | succ n ih =>
    intro A1 A2 A3 A4 A5 n1 c1 n2 c2 n3 c3 n4 c4 c5 mn F d ns es ls sd path w hg hf hs hp hn4 hn5 hpe hfo hd
    have HIH := Lib.hid ih
    have HG := Lib.hid hg
    have HF := Lib.hid hf
    have HS := Lib.hid hs
    have HP := Lib.hid hp
    have HPL := Lib.hid hp.1
    have HPE := Lib.hid hpe
    have HFO := Lib.hid hfo
    have HO := Lib.hid (ok_of hpe)
    have HPI := Lib.hid (follow_in hfo)
    obtain ⟨b5, o5, rfl, hl5, hc5⟩ := hp.2 (by omega)
    have HC5 := Lib.hid hc5
    have hpj := HPI.out.2 n (by rw [HPL.out]; omega)
    obtain ⟨k, hk⟩ := Int.eq_ofNat_of_zero_le hpj.1
    have HSPL : Hid (path = path.take n ++ [(k : Int)]) := Lib.hid (by
      have hjl : n < path.length := by rw [HPL.out]; omega
      have e1 : path.take (n + 1) = path.take n ++ [gi path n] := by rw [List.take_add_one, List.getElem?_eq_getElem hjl, gi_lt hjl]; rfl
      rw [hk] at e1
      rw [← e1, List.take_of_length_le (by rw [HPL.out]; exact Nat.le_refl _)])
    have HFN : Hid ((Sp.followS ns es mn mn (path.take n)).1 = 0) := Lib.hid (follow_front (k := (k : Int)) (by rw [← HSPL.out]; exact HFO.out))
    have HER : Hid (alErr ⟨ns, es, mn, F, ls, sd⟩ (path.take n) = 0) := Lib.hid (by unfold alErr; rw [if_neg (not_not_intro HPE.out)]; exact HFN.out)
    have HLINK := Lib.hid (along_link HO.out (path := path.take n) (k := (k : Int)) (d := d) (by simpa using (by have := hpj.2; omega : k < es.length)) (by rw [← HSPL.out]; exact hd))
    have hn4096 : n ≤ 4096 := by have := HPI.out.1; have := HPL.out; omega
    have hk2 : k < n2 := by have := HG.out.ed.1; omega
    have hk3 : k < n3 := by have := HG.out.ed.1; have := HF.out.1; have h9 : ls.length = es.length := HO.out.len; omega
    have hfl : (gf ls k).length ≤ 8192 := (HO.out.fl k (by have h9 : ls.length = n3 := HF.out.1; show k < ls.length; omega)).1
    obtain ⟨Fn, hFn⟩ := Int.eq_ofNat_of_zero_le (show 0 ≤ F by have h9 : 1 ≤ F := HO.out.f1; omega)
    have HFN2 := Lib.hid hFn
    have hF8 : Fn ≤ 1024 := by have h9 : F ≤ 1024 := HO.out.f2; omega
    have HDR : Hid (0 ≤ d ∧ d < F) := Lib.hid (by
      rcases hd with rfl | hd
      · have h9 : 1 ≤ F := HO.out.f1; omega
      · have h9 := alongF_rng HO.out HPI.out.2 d hd; dsimp only at h9; omega)
    have HK := Lib.hid hk
    clear ih hg hf hs hp hpe hfo hd hc5 hpj hk
    subst hFn
    go_enter Tryz.func7, Tryz.ntmps7
    go_upto_region 1 with fail
    refine wp_named (fun W => ∃ b0, w.heap.size = b0 ∧ Blk W b0 [.slice A1 n1 c1, .slice A2 n2 c2, .int .i64 mn, .int .i64 (Fn : Nat), .slice A3 n3 c3, .slice A4 n4 c4] ∧ Below w.heap.size w W) ⟨_, rfl, ?_, ?_⟩ ?_
    · exact Blk.new _ _ _ _ (by first | rfl | simp)
    · go_grown
    rintro W ⟨b0, e0, B0, hB⟩
    rw [e0]
    have G0 : w.heap.size ≤ b0 := by omega
    clear e0
    have ⟨L0, C0, F0⟩ := B0
    have hkW : Kept [] w W := (Kept.refl _ _).call hB
    have r5 : W.cell? ⟨b5, o5 + n, none⟩ = some (.int .i64 k) := by rw [← HK.out]; exact (hkW.cell b5 _ hl5 (by simp)).trans (HC5.out n (by omega))
    have hl5W : b5 < W.heap.size := Nat.lt_of_lt_of_le hl5 hkW.size
    have y1 : (((n + 1 : Nat) : Int) == 0) = false := by simp; omega
    have y2 : (n + 1 == 0) = false := by simp
    have y3 : (((n : Nat) : Int) + 1 == 0) = false := by simp; omega
    have y4 : IntKind.i64.wrap (((n + 1 : Nat) : Int) - 1) = (n : Int) := by rw [IntWalk.i64_in _ (by omega)]; omega
    have y5 : IntKind.i64.wrap ((n : Int) + 1 - 1) = (n : Int) := by rw [IntWalk.i64_in _ (by omega)]; omega
    have y6 : (n : Int) < (n : Int) + 1 := by omega
    have y7 : (n : Int) + 1 - 1 = (n : Int) := by omega
    have y8 : n ≤ c5 := by omega
    have y9 : (n : Int) ≤ (c5 : Int) := by omega
    go_upto_region 4 with fail
    go_wp2_with fail
    go_loopw [9] (fun s wr => ∃ a : Nat, a ≤ Fn ∧ s = .int .i64 a ∧ Kept [] W wr ∧ Hid (∀ x : Nat, x < a → ¬ (((x : Int) = 0 ∨ (x : Int) ∈ alongF ⟨ns, es, mn, (Fn : Nat), ls, sd⟩ (path.take n)) ∧ linkB ⟨ns, es, mn, (Fn : Nat), ls, sd⟩ k x d = true))) (fun s _ => Fn - (intOf s).toNat)
    case atStart => exact ⟨0, Nat.zero_le _, rfl, Kept.refl _ _, Lib.hid (fun x h => absurd h (by omega))⟩
    case round =>
    clear C0 F0 r5
    obtain ⟨a, ha, rfl, hkr, hno⟩ := hrel
    have ⟨LR, CR, FR⟩ := hkr.blk (by simp) B0
    have hkwr : Kept [] w wr := keptTrans hkW hkr
    by_cases hlt : a < Fn
    case neg =>
      exfalso
      obtain ⟨x, hx1, hx2⟩ := HLINK.out
      have hxr : 0 ≤ x ∧ x < (Fn : Int) := by
        rcases hx1 with rfl | hx1
        · have h9 : 1 ≤ (Fn : Int) := HO.out.f1; omega
        · have h9 := alongF_rng HO.out (follow_in HFN.out).2 x hx1; dsimp only at h9; omega
      obtain ⟨xn, rfl⟩ := Int.eq_ofNat_of_zero_le hxr.1
      exact hno.out xn (by omega) ⟨hx1, hx2⟩
    have ha1 : (a : Int) < (Fn : Int) := by omega
    have y1 : IntKind.i64.wrap (n : Int) = (n : Int) := IntWalk.i64_in _ (by omega)
    have y2 : (0 : Int) ≤ (n : Int) := by omega
    have y3 : (n : Int) ≤ (c5 : Int) := by omega
    have y4 : n ≤ c5 := by omega
    have y5 : (0 : Int) ≤ (n : Int) ∧ (n : Int) ≤ (c5 : Int) := ⟨y2, y3⟩
    go_upto_region 7 with fail
    refine wp_region_E 11 (fun w' => SX0 wr w') (by kernel_rfl) (by (repeat' first | (with_reducible assumption) | (with_reducible exact SX0.init _) | (with_reducible exact SX0.refl _) | (with_reducible refine SX0.alloc ?_ _) | (with_reducible refine SX0.call ?_ (by assumption)) | (with_reducible refine SX0.set ?_ _ _ _ ?_) | (with_reducible refine SX0.drew ?_) | (simp; done) | omega | (simp; omega))) (fun hHeld => ?_)
    refine WE_take 0 (v := ?_) rfl (by kernel_rfl) (fun _ _ _ h => h) (Or.inl ⟨by rfl, ?_⟩) (by assumption) ?_; rotate_left; (· intro w9 hSw; (try dsimp only at hSw); go_simp; try with_reducible rfl); (try simp only [Act.put, List.setIfInBounds_toArray, List.set_cons_zero, List.set_cons_succ])
    refine WE_take 1 (v := ?_) rfl (by kernel_rfl) (fun _ _ _ h => h) (Or.inl ⟨by rfl, ?_⟩) (by assumption) ?_; rotate_left; (· intro w9 hSw; (try dsimp only at hSw); go_simp; try with_reducible rfl); (try simp only [Act.put, List.setIfInBounds_toArray, List.set_cons_zero, List.set_cons_succ])
    refine WE_take 2 (v := ?_) rfl (by kernel_rfl) (fun _ _ _ h => h) (Or.inl ⟨by rfl, ?_⟩) (by assumption) ?_; rotate_left; (· intro w9 hSw; (try dsimp only at hSw); go_simp; try with_reducible rfl); (try simp only [Act.put, List.setIfInBounds_toArray, List.set_cons_zero, List.set_cons_succ])
    refine WE_take 3 (v := ?_) rfl (by kernel_rfl) (fun _ _ _ h => h) (Or.inl ⟨by rfl, ?_⟩) (by assumption) ?_; rotate_left; (· intro w9 hSw; (try dsimp only at hSw); go_simp; try with_reducible rfl); (try simp only [Act.put, List.setIfInBounds_toArray, List.set_cons_zero, List.set_cons_succ])
    refine WE_take 4 (v := ?_) rfl (by kernel_rfl) (fun _ _ _ h => h) (Or.inl ⟨by rfl, ?_⟩) (by assumption) ?_; rotate_left; (· intro w9 hSw; (try dsimp only at hSw); go_simp; try with_reducible rfl); (try simp only [Act.put, List.setIfInBounds_toArray, List.set_cons_zero, List.set_cons_succ])
    refine WE_take 5 (v := ?_) rfl (by kernel_rfl) (fun _ _ _ h => h) (Or.inl ⟨by rfl, ?_⟩) (by assumption) ?_; rotate_left; (· intro w9 hSw; (try dsimp only at hSw); go_simp; try with_reducible rfl); (try simp only [Act.put, List.setIfInBounds_toArray, List.set_cons_zero, List.set_cons_succ])
    refine WE_step 6 rfl (by kernel_rfl) (fun K hK => ?_)
    go_simp
    (go_at_call 17; refine (rAlong_any A1 A2 A3 A4 (some ⟨b5, o5, none⟩) n1 c1 n2 c2 n3 c3 n4 c4 n c5 mn Fn ns es ls sd (path.take n) _ (HG.out.kept hkwr.drew) (HF.out.later (hkwr.drew).toBelow) (HS.out.later (hkwr.drew).toBelow) ((HP.out.takeT (by omega)).later (hkwr.drew).toBelow) hn4 0 HER.out).mono ?_; rintro e w3 ⟨h3, hb3⟩; rcases h3 with ⟨h9, -⟩ | ⟨-, Q, m, c, rfl, hi3, hmc3⟩; exact absurd rfl h9; have HI3 := Lib.hid hi3; clear hi3)
    (try go_wp2_with fail)
    refine hK.out _ _ ?_ (fun hHeld => ?_)
    · (repeat' first | (with_reducible assumption) | (with_reducible exact SX0.init _) | (with_reducible exact SX0.refl _) | (with_reducible refine SX0.alloc ?_ _) | (with_reducible refine SX0.call ?_ (by assumption)) | (with_reducible refine SX0.set ?_ _ _ _ ?_) | (with_reducible refine SX0.drew ?_) | (simp; done) | omega | (simp; omega))
    clear hK K
    try simp only [Act.put, List.setIfInBounds_toArray, List.set_cons_zero, List.set_cons_succ]
    refine WE_take 7 (v := ?_) rfl (by kernel_rfl) (fun _ _ _ h => h) (Or.inl ⟨by rfl, ?_⟩) (by assumption) ?_; rotate_left; (· intro w9 hSw; (try dsimp only at hSw); go_simp; try with_reducible rfl); (try simp only [Act.put, List.setIfInBounds_toArray, List.set_cons_zero, List.set_cons_succ])
    refine WE_take 8 (v := ?_) rfl (by kernel_rfl) (fun _ _ _ h => h) (Or.inl ⟨by rfl, ?_⟩) (by assumption) ?_; rotate_left; (· intro w9 hSw; (try dsimp only at hSw); go_simp; try with_reducible rfl); (try simp only [Act.put, List.setIfInBounds_toArray, List.set_cons_zero, List.set_cons_succ])
    refine WE_take 9 (v := ?_) rfl (by kernel_rfl) (fun _ _ _ h => h) (Or.inl ⟨by rfl, ?_⟩) (by assumption) ?_; rotate_left; (· intro w9 hSw; (try dsimp only at hSw); go_simp; try with_reducible rfl); (try simp only [Act.put, List.setIfInBounds_toArray, List.set_cons_zero, List.set_cons_succ])
    refine WE_take 10 (v := ?_) rfl (by kernel_rfl) (fun _ _ _ h => h) (Or.inl ⟨by rfl, ?_⟩) (by assumption) ?_; rotate_left; (· intro w9 hSw; (try dsimp only at hSw); go_simp; try with_reducible rfl); (try simp only [Act.put, List.setIfInBounds_toArray, List.set_cons_zero, List.set_cons_succ])
    refine WE_last rfl (by kernel_rfl) (fun K hK => ?_)
    go_simp
    refine hK.out _ _ ?_
    clear hK K
    have hk3 : Kept [] W w3 := keptTrans hkr hHeld.1
    have hkw3 : Kept [] w w3 := keptTrans hkW hk3
    have ⟨L3, C3, F3⟩ := hk3.blk (by simp) B0
    have HML := Lib.hid HI3.out.1
    have hm9 : m ≤ 1024 := by have h9 := alongF_len2T HO.out (follow_in HFN.out).2; have h8 := HI3.out.1; omega
    clear CR FR
    go_wp2_with fail
    go_loopw [12, 13] (fun s12 s13 wy => ∃ (i : Nat) (b : Bool), i ≤ m ∧ s13 = .int .i64 i ∧ s12 = .bool b ∧ Kept [] w3 wy ∧ Hid (b = decide ((a : Int) = 0 ∨ ∃ z, z < i ∧ gi (alongF ⟨ns, es, mn, (Fn : Nat), ls, sd⟩ (path.take n)) z = (a : Int)))) (fun _ s _ => m - (intOf s).toNat)
    case atStart =>
      refine ⟨0, decide ((a : Int) = 0), Nat.zero_le _, rfl, by first | rfl | simp, Kept.refl _ _, Lib.hid ?_⟩
      rw [decide_eq_decide]
      exact ⟨fun h => Or.inl h, fun h => h.elim id (fun ⟨z, hz, _⟩ => absurd hz (by omega))⟩
    case round =>
    rename World => wy
    obtain ⟨i, b, hi, rfl, rfl, hky, hbv⟩ := hrel
    have hkWy : Kept [] W wy := keptTrans hk3 hky
    have hkwy : Kept [] w wy := keptTrans hkW hkWy
    by_cases hlti : i < m
    · obtain ⟨bq, oq, rfl, hlq, hcq⟩ := HI3.out.2 (by omega)
      have rq := (hky.cell bq _ hlq (by simp)).trans (hcq i hlti)
      have hlqy : bq < wy.heap.size := Nat.lt_of_lt_of_le hlq hky.size
      obtain ⟨y, hy⟩ : ∃ y, gi (alongF ⟨ns, es, mn, (Fn : Nat), ls, sd⟩ (path.take n)) i = y := ⟨_, rfl⟩
      rw [hy] at rq
      have HY := Lib.hid hy
      have hi1 : (i : Int) < (m : Int) := by omega
      clear hcq hy
      cases b with
      | true =>
        have HB2 : Hid (true = decide ((a : Int) = 0 ∨ ∃ z, z < i + 1 ∧ gi (alongF ⟨ns, es, mn, (Fn : Nat), ls, sd⟩ (path.take n)) z = (a : Int))) := Lib.hid (by
          symm
          rcases of_decide_eq_true hbv.out.symm with h | ⟨z, hz, h⟩
          · exact decide_eq_true (Or.inl h)
          · exact decide_eq_true (Or.inr ⟨z, by omega, h⟩))
        go_wp2_with fail
        exact ⟨⟨i + 1, true, by omega, by go_num, rfl, hky, HB2⟩, by simp [intOf]; omega⟩
      | false =>
        have hnn := of_decide_eq_false hbv.out.symm
        by_cases hya : y = (a : Int)
        · have z1 : (y == (a : Int)) = true := by simpa using hya
          have HB2 : Hid (true = decide ((a : Int) = 0 ∨ ∃ z, z < i + 1 ∧ gi (alongF ⟨ns, es, mn, (Fn : Nat), ls, sd⟩ (path.take n)) z = (a : Int))) := Lib.hid (decide_eq_true (Or.inr ⟨i, by omega, by rw [HY.out]; exact hya⟩)).symm
          subst hya
          clear hnn
          go_wp2_with fail
          exact ⟨⟨i + 1, true, by omega, by go_num, by first | rfl | simp, hky, HB2⟩, by simp [intOf]; omega⟩
        · have z1 : (y == (a : Int)) = false := by simpa using hya
          have HB2 : Hid (false = decide ((a : Int) = 0 ∨ ∃ z, z < i + 1 ∧ gi (alongF ⟨ns, es, mn, (Fn : Nat), ls, sd⟩ (path.take n)) z = (a : Int))) := Lib.hid (decide_eq_false (fun h => by
            rcases h with h | ⟨z, hz, h⟩
            · exact hnn (Or.inl h)
            · rcases Nat.lt_or_ge z i with h9 | h9
              · exact hnn (Or.inr ⟨z, h9, h⟩)
              · obtain rfl : z = i := by omega
                rw [HY.out] at h; exact hya h)).symm
          clear hnn hya
          go_wp2_with fail
          exact ⟨⟨i + 1, false, by omega, by go_num, rfl, hky, HB2⟩, by simp [intOf]; omega⟩
    obtain rfl : i = m := by omega
    have HHOLD : Hid (b = decide ((a : Int) = 0 ∨ (a : Int) ∈ alongF ⟨ns, es, mn, (Fn : Nat), ls, sd⟩ (path.take n))) := Lib.hid (by
      rw [hbv.out, decide_eq_decide]
      constructor
      · rintro (h | ⟨z, hz, h⟩)
        · exact Or.inl h
        · right; rw [← h, gi_lt (by rw [HML.out]; exact hz)]; exact List.getElem_mem _
      · rintro (h | h)
        · exact Or.inl h
        · obtain ⟨z, hz, e⟩ := List.getElem_of_mem h
          exact Or.inr ⟨z, by rw [← HML.out]; exact hz, by rw [gi_lt hz]; exact e⟩)
    have ⟨LY, CY, FY⟩ := hkWy.blk (by simp) B0
    clear C3 F3 hlti
    have HNX : Hid (¬ (((a : Int) = 0 ∨ (a : Int) ∈ alongF ⟨ns, es, mn, (Fn : Nat), ls, sd⟩ (path.take n)) ∧ linkB ⟨ns, es, mn, (Fn : Nat), ls, sd⟩ k a d = true) → ∀ x : Nat, x < a + 1 → ¬ (((x : Int) = 0 ∨ (x : Int) ∈ alongF ⟨ns, es, mn, (Fn : Nat), ls, sd⟩ (path.take n)) ∧ linkB ⟨ns, es, mn, (Fn : Nat), ls, sd⟩ k x d = true)) := Lib.hid (fun h x hx => by
      rcases Nat.lt_or_ge x a with h9 | h9
      · exact hno.out x h9
      · obtain rfl : x = a := by omega
        exact h)
    cases b with
    | false =>
      have HN := Lib.hid (HNX.out (fun h => of_decide_eq_false HHOLD.out.symm h.1))
      go_wp2_with fail
      exact ⟨⟨a + 1, by omega, by go_num, hkWy, HN⟩, by simp [intOf]; omega⟩
    | true =>
    obtain ⟨v, hv⟩ : ∃ v, linkB ⟨ns, es, mn, (Fn : Nat), ls, sd⟩ k a d = v := ⟨_, rfl⟩
    have HV := Lib.hid hv
    clear hv
    cases v with
    | false =>
      have HN := Lib.hid (HNX.out (fun h => by rw [HV.out] at h; exact absurd h.2 (by simp)))
      go_wp2_with fail
      refine (linked31_any A1 A2 A3 A4 n1 c1 n2 c2 n3 c3 n4 c4 k mn Fn a d ns es ls sd _ (HG.out.kept hkwy).ed (HF.out.later hkwy.toBelow) (HS.out.later hkwy.toBelow) hn4 hk2 (by assumption) hfl).mono ?_
      rw [HV.out]
      rintro e w4 ⟨rfl, hb4⟩
      go_wp2_with fail
      exact ⟨⟨a + 1, by omega, by go_num, hkWy.call hb4, HN⟩, by simp [intOf]; omega⟩
    | true =>
    go_wp2_with fail
    refine (linked31_any A1 A2 A3 A4 n1 c1 n2 c2 n3 c3 n4 c4 k mn Fn a d ns es ls sd _ (HG.out.kept hkwy).ed (HF.out.later hkwy.toBelow) (HS.out.later hkwy.toBelow) hn4 hk2 (by assumption) hfl).mono ?_
    rw [HV.out]
    rintro e w4 ⟨rfl, hb4⟩
    go_upto_region 14 with fail
    have hk4 : Kept [] W w4 := hkWy.call hb4
    have hkw4 : Kept [] w w4 := keptTrans hkW hk4
    have ⟨L4, C4, F4⟩ := hk4.blk (by simp) B0
    clear CY FY
    refine wp_region_E 12 (fun w' => SX0 w4 w') (by kernel_rfl) (by (repeat' first | (with_reducible assumption) | (with_reducible exact SX0.init _) | (with_reducible exact SX0.refl _) | (with_reducible refine SX0.alloc ?_ _) | (with_reducible refine SX0.call ?_ (by assumption)) | (with_reducible refine SX0.set ?_ _ _ _ ?_) | (with_reducible refine SX0.drew ?_) | (simp; done) | omega | (simp; omega))) (fun hHeld => ?_)
    refine WE_take 0 (v := ?_) rfl (by kernel_rfl) (fun _ _ _ h => h) (Or.inl ⟨by rfl, ?_⟩) (by assumption) ?_; rotate_left; (· intro w9 hSw; (try dsimp only at hSw); go_simp; try with_reducible rfl); (try simp only [Act.put, List.setIfInBounds_toArray, List.set_cons_zero, List.set_cons_succ])
    refine WE_take 1 (v := ?_) rfl (by kernel_rfl) (fun _ _ _ h => h) (Or.inl ⟨by rfl, ?_⟩) (by assumption) ?_; rotate_left; (· intro w9 hSw; (try dsimp only at hSw); go_simp; try with_reducible rfl); (try simp only [Act.put, List.setIfInBounds_toArray, List.set_cons_zero, List.set_cons_succ])
    refine WE_take 2 (v := ?_) rfl (by kernel_rfl) (fun _ _ _ h => h) (Or.inl ⟨by rfl, ?_⟩) (by assumption) ?_; rotate_left; (· intro w9 hSw; (try dsimp only at hSw); go_simp; try with_reducible rfl); (try simp only [Act.put, List.setIfInBounds_toArray, List.set_cons_zero, List.set_cons_succ])
    refine WE_take 3 (v := ?_) rfl (by kernel_rfl) (fun _ _ _ h => h) (Or.inl ⟨by rfl, ?_⟩) (by assumption) ?_; rotate_left; (· intro w9 hSw; (try dsimp only at hSw); go_simp; try with_reducible rfl); (try simp only [Act.put, List.setIfInBounds_toArray, List.set_cons_zero, List.set_cons_succ])
    refine WE_take 4 (v := ?_) rfl (by kernel_rfl) (fun _ _ _ h => h) (Or.inl ⟨by rfl, ?_⟩) (by assumption) ?_; rotate_left; (· intro w9 hSw; (try dsimp only at hSw); go_simp; try with_reducible rfl); (try simp only [Act.put, List.setIfInBounds_toArray, List.set_cons_zero, List.set_cons_succ])
    refine WE_take 5 (v := ?_) rfl (by kernel_rfl) (fun _ _ _ h => h) (Or.inl ⟨by rfl, ?_⟩) (by assumption) ?_; rotate_left; (· intro w9 hSw; (try dsimp only at hSw); go_simp; try with_reducible rfl); (try simp only [Act.put, List.setIfInBounds_toArray, List.set_cons_zero, List.set_cons_succ])
    refine WE_take 6 (v := ?_) rfl (by kernel_rfl) (fun _ _ _ h => h) (Or.inl ⟨by rfl, ?_⟩) (by assumption) ?_; rotate_left; (· intro w9 hSw; (try dsimp only at hSw); go_simp; try with_reducible rfl); (try simp only [Act.put, List.setIfInBounds_toArray, List.set_cons_zero, List.set_cons_succ])
    refine WE_step 7 rfl (by kernel_rfl) (fun K hK => ?_)
    go_simp
    (go_at_call 7; refine (HIH.out A1 A2 A3 A4 (some ⟨b5, o5, none⟩) n1 c1 n2 c2 n3 c3 n4 c4 c5 mn Fn a ns es ls sd (path.take n) _ (HG.out.kept hkw4.drew) (HF.out.later (hkw4.drew).toBelow) (HS.out.later (hkw4.drew).toBelow) ((HP.out.takeT (by omega)).later (hkw4.drew).toBelow) hn4 (by omega) HPE.out HFN.out (of_decide_eq_true HHOLD.out.symm)).mono ?_; rintro e wx ⟨Q9, m9, q9, fs, rfl, hown9, hm9', htr, hb9⟩; have OWX0 := Lib.hid hown9; have HTR := Lib.hid htr; have HM9 := Lib.hid hm9'; have hm9b : m9 ≤ 5000 := (by omega); clear hown9 htr hm9')
    (try go_wp2_with fail)
    refine hK.out _ _ ?_ (fun hHeld => ?_)
    · (repeat' first | (with_reducible assumption) | (with_reducible exact SX0.init _) | (with_reducible exact SX0.refl _) | (with_reducible refine SX0.alloc ?_ _) | (with_reducible refine SX0.call ?_ (by assumption)) | (with_reducible refine SX0.set ?_ _ _ _ ?_) | (with_reducible refine SX0.drew ?_) | (simp; done) | omega | (simp; omega))
    clear hK K
    try simp only [Act.put, List.setIfInBounds_toArray, List.set_cons_zero, List.set_cons_succ]
    refine WE_take 8 (v := ?_) rfl (by kernel_rfl) (fun _ _ _ h => h) (Or.inl ⟨by rfl, ?_⟩) (by assumption) ?_; rotate_left; (· intro w9 hSw; (try dsimp only at hSw); go_simp; try with_reducible rfl); (try simp only [Act.put, List.setIfInBounds_toArray, List.set_cons_zero, List.set_cons_succ])
    refine WE_take 9 (v := ?_) rfl (by kernel_rfl) (fun _ _ _ h => h) (Or.inl ⟨by rfl, ?_⟩) (by assumption) ?_; rotate_left; (· intro w9 hSw; (try dsimp only at hSw); go_simp; try with_reducible rfl); (try simp only [Act.put, List.setIfInBounds_toArray, List.set_cons_zero, List.set_cons_succ])
    refine WE_take 10 (v := ?_) rfl (by kernel_rfl) (fun _ _ _ h => h) (Or.inl ⟨by rfl, ?_⟩) (by assumption) ?_; rotate_left; (· intro w9 hSw; (try dsimp only at hSw); go_simp; try with_reducible rfl); (try simp only [Act.put, List.setIfInBounds_toArray, List.set_cons_zero, List.set_cons_succ])
    refine WE_take 11 (v := ?_) rfl (by kernel_rfl) (fun _ _ _ h => h) (Or.inl ⟨by rfl, ?_⟩) (by assumption) ?_; rotate_left; (· intro w9 hSw; (try dsimp only at hSw); go_simp; try with_reducible rfl); (try simp only [Act.put, List.setIfInBounds_toArray, List.set_cons_zero, List.set_cons_succ])
    refine WE_last rfl (by kernel_rfl) (fun K hK => ?_)
    go_simp
    refine hK.out _ _ ?_
    clear hK K
    have hkx : Kept [] W wx := keptTrans hk4 hHeld.1
    have hkbx : Kept [] w wx := keptTrans hkW hkx
    have OWX := Lib.hid (own_mono (b' := w.heap.size) OWX0.out (by have := hkw4.size; simpa using this))
    have HX9 : Hid (∀ y ∈ (Value.slice Q9 m9 q9).ownBlock.toList, w.heap.size ≤ y) := Lib.hid (fun y hy => own_ge OWX.out (by simpa using hy))
    have HAP := Lib.hid (ints_snoc fs d)
    obtain ⟨i1, hj, hy0, hy1, hy2⟩ := info_parts intf_info
    have hsx := hkbx.size
    have HFIN : Hid (TrD ⟨ns, es, mn, (Fn : Nat), ls, sd⟩ path d (fs ++ [d])) := Lib.hid (by
      obtain ⟨t1, t2⟩ := HTR.out
      have h9 := t1.snoc (k := (k : Int)) (d := d) HDR.out (by rw [t2]; exact HV.out)
      rw [← HSPL.out] at h9
      refine ⟨h9, ?_⟩
      have h8 := t1.len
      have h7 : path.length = (path.take n).length + 1 := by rw [List.length_take]; have := HPL.out; omega
      rw [h7, ← h8, gi_lt (by simp)]
      simp)
    clear C4 F4
    go_wp2_with (at_builtin; refine wpList_append_rd _ rfl _ _ 30 rfl w.heap.size 3 i1 (.int .i64 0) 1 8 Tryz.underlying30 hj hy0 hy1 hy2 rfl (by decide) (.slice Q9 m9 q9) m9 _ rfl (own_keptT (X := []) OWX.out ((Kept.refl _ _).alloc _) (by simp)) (some ⟨wx.heap.size, 0, none⟩) 1 1 [.int .i64 d] rfl (Rd.new1 _ _ _ _ rfl) (fun h => by cases h) (by intro u hu; simp at hu; subst hu; rfl) (m9 + 1) rfl _ HAP.out (by unfold maxLen; omega) (by omega) (by simp; omega) ?_; intro A9 c9 w9 hown4 hk4 hat4; have hk5 := Lib.hid ((hkbx.alloc (.cells #[.int .i64 d] 3)).next hk4 (fun y hy => Or.inr (HX9.out y hy))); have HO4 := Lib.hid hown4; clear hown4 hk4 hat4)
    go_ret2
    exact ⟨A9, m9 + 1, c9, fs ++ [d], rfl, HO4.out, by have := HM9.out; omega, HFIN.out, hk5.out.toBelow⟩
end Go.Proofs.YtffkikhknabddaaGreat
