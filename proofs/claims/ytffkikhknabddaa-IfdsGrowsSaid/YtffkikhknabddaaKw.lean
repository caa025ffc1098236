/- The contracts of the reference's With and Union, and of within. -/
import Derived.Test.YtffkikhknabddaaKu
import Derived.Test.YtffkikhknabddaaKf
import Derived.Test.YtffkikhknabddaaZa
import Derived.Test.YtffkikhknabddaaZi
namespace Go.Df
open Go.RowKit
theorem new2T (w : World) (b : Nat) (u v : Value) (t : TypeId) (hb : b = w.heap.size) : Rd (w.alloc (.cells #[u, v] t)) 2 (some ⟨b, 0, none⟩) 1 [u, v] := by
  subst hb
  refine ⟨rfl, fun _ => ⟨_, _, rfl, by simp, fun j _ => ?_⟩⟩
  rw [World.cell?_alloc_new, Nat.zero_add]; simp
namespace If
/-- The cells of a list of pairs. -/
def prcells (l : List Pr) : List Value := l.flatMap fun x => [.int .i64 x.i, .int .i64 x.o]
theorem prcells_snoc (l : List Pr) (x : Pr) : prcells l ++ [.int .i64 x.i, .int .i64 x.o] = prcells (l ++ [x]) := by simp [prcells]
theorem prcells_at : ∀ (l : List Pr) {i : Nat} (_ : i < l.length), (prcells l)[i * 2]? = some (.int .i64 (gp l i).i) ∧ (prcells l)[i * 2 + 1]? = some (.int .i64 (gp l i).o)
  | x :: l, 0, _ => by simp [prcells, gp]
  | x :: l, i + 1, h => by
    have h1 := prcells_at l (i := i) (by simpa using h)
    have e : prcells (x :: l) = [.int .i64 x.i, .int .i64 x.o] ++ prcells l := rfl
    have e2 : gp (x :: l) (i + 1) = gp l i := by simp [gp]
    rw [e, e2]
    refine ⟨?_, ?_⟩
    · rw [List.getElem?_append_right (by simp; omega), show (i + 1) * 2 - [Value.int .i64 x.i, .int .i64 x.o].length = i * 2 by simp; omega]; exact h1.1
    · rw [List.getElem?_append_right (by simp; omega), show (i + 1) * 2 + 1 - [Value.int .i64 x.i, .int .i64 x.o].length = i * 2 + 1 by simp; omega]; exact h1.2
theorem Prs.own {w : World} {base : Nat} {e : TypeId} {A : Option Addr} {n c : Nat} {l : List Pr} (h : w.ownsRow base e 2 (.slice A n c) n (prcells l)) (hl : l.length = n) : Prs w A n l ∧ n ≤ c := by
  by_cases h0 : 0 < n
  · obtain ⟨g, c', hv, hb, hg, hc, -, hcell, -⟩ := own_cellsT h h0
    injection hv with e1 e2 e3
    subst e1
    subst e3
    exact ⟨⟨hl, fun _ => ⟨g, 0, rfl, hg, fun i hi => by
      obtain ⟨h1, h2⟩ := prcells_at l (i := i) (by omega)
      rw [Nat.zero_add, hcell _ (by omega), hcell _ (by omega)]
      exact ⟨h1, h2⟩⟩⟩, hc⟩
  · exact ⟨⟨hl, fun h => absurd h h0⟩, by omega⟩
theorem wst_len (x : Pr) (s : List Pr × Bool) (y : Pr) : (wst x s y).1.length = s.1.length + (if s.2 = false ∧ lessR x y = true then 2 else 1) := by
  unfold wst
  split <;> simp
/-- The state of With behind i elements. -/
def wsi (x : Pr) (l : List Pr) (i : Nat) : List Pr × Bool := (l.take i).foldl (wst x) ([], false)
theorem wsi_succ {x : Pr} {l : List Pr} {i : Nat} (hi : i < l.length) : wsi x l (i + 1) = wst x (wsi x l i) (gp l i) := by
  unfold wsi
  rw [List.take_add_one, List.foldl_append, gp_lt hi]
  simp [hi]
theorem wsi_all {x : Pr} {l : List Pr} {n : Nat} (h : l.length ≤ n) : wsi x l n = wsl x l := by
  unfold wsi wsl
  rw [List.take_of_length_le h]
theorem wsl_len (x : Pr) : ∀ (l : List Pr) (s : List Pr × Bool), (l.foldl (wst x) s).1.length + (if (l.foldl (wst x) s).2 = true then 0 else 1) = s.1.length + l.length + (if s.2 = true then 0 else 1)
  | [], s => by simp only [List.foldl_nil, List.length_nil, Nat.add_zero]; rfl
  | y :: l, s => by
    rw [List.foldl_cons, wsl_len x l (wst x s y)]
    unfold wst
    split
    · rename_i h; simp [h.1]; omega
    · simp; omega
theorem withR_len (l : List Pr) (x : Pr) : (withR l x).length ≤ l.length + 1 := by
  have h := wsl_len x l ([], false)
  unfold withR wsl
  split
  · omega
  · split
    · rename_i h2; rw [h2] at h; simp at h; omega
    · rename_i h2
      rw [List.length_append]
      simp at h2 h
      rw [h2] at h
      simp at h
      simp
      omega
def unF (f : List Pr) (s : List Pr) (i : Nat) : List Pr := (f.take i).foldl withR s
theorem unF_succ {f s : List Pr} {i : Nat} (hi : i < f.length) : unF f s (i + 1) = withR (unF f s i) (gp f i) := by
  unfold unF
  rw [List.take_add_one, List.foldl_append, gp_lt hi]
  simp [hi]
theorem unF_all {f s : List Pr} {n : Nat} (h : f.length ≤ n) : unF f s n = f.foldl withR s := by
  unfold unF
  rw [List.take_of_length_le h]
theorem unF_len (f s : List Pr) : ∀ i, (unF f s i).length ≤ s.length + i
  | 0 => by simp [unF]
  | i + 1 => by
    by_cases h : i < f.length
    · rw [unF_succ h]
      have := withR_len (unF f s i) (gp f i)
      have := unF_len f s i
      omega
    · have e : unF f s (i + 1) = unF f s i := by unfold unF; rw [List.take_of_length_le (by omega), List.take_of_length_le (by omega)]
      rw [e]
      have := unF_len f s i
      omega
end If
end Go.Df
namespace Go.Proofs.Ytffkikhknabddaa
open Go.RowKit Go.Df Go.Df.If
attribute [local go_sem ↓] Go.wp_at_zero Go.wp_at_succ
theorem pairi_info : (Try.prog.info? 65).map (fun i => (i.zero, i.size, i.bytes)) = some (some (.agg #[.int .i64 0, .int .i64 0]), 2, 16) := by kernel_rfl

set_option maxRecDepth 100000 in
set_option maxHeartbeats 8000000 in
theorem rwith_any (A : Option Addr) (n c : Nat) (l : List Pr) (xi xo : Int) (w : World) (hp : Prs w A n l) (hn : n ≤ 100000) (hnc : n ≤ c) :
    Calls Try.prog 83 #[.slice A n c, .agg #[.int .i64 xi, .int .i64 xo]] w fun e w' => ∃ A' n' c', e = .returned (.slice A' n' c') ∧ Prs w' A' n' (withR l ⟨xi, xo⟩) ∧ n' ≤ c' ∧ Below w.heap.size w w' := by
  obtain ⟨i0, hi, hz0, hz1, hz2⟩ := info_parts pairi_info
  have HP := Lib.hid hp
  have HL := Lib.hid hp.1
  clear hp
  go_enter Try.func83, Try.ntmps83
  go_upto_region 1 with fail
  refine wp_named (fun W => ∃ b0, w.heap.size = b0 ∧ Blk W b0 [.int .i64 xi, .int .i64 xo] ∧ Below w.heap.size w W) ⟨_, rfl, ?_, ?_⟩ ?_
  · exact Blk.new _ _ _ _ (by first | rfl | simp)
  · go_grown
  rintro W ⟨b0, e0, B0, hB⟩
  rw [e0]
  have G0 : w.heap.size ≤ b0 := by omega
  clear e0
  have ⟨L0, C0, F0⟩ := B0
  go_wp2_with fail
  go_loopw [5, 6, 7] (fun s5 s6 s7 wr => ∃ (i : Nat) (B : Option Addr) (k cB : Nat) (o : List Pr) (pt : Bool), i ≤ n ∧ s7 = .int .i64 i ∧ s6 = .bool pt ∧ s5 = .slice B k cB ∧ Kept [] W wr ∧ Hid (wsi ⟨xi, xo⟩ l i = (o, pt)) ∧ o.length = k ∧ k ≤ 2 * i ∧ Hid (wr.ownsRow W.heap.size 65 2 (.slice B k cB) k (prcells o)) ∧ Hid (∀ j, j < i → gp l j ≠ ⟨xi, xo⟩)) (fun _ _ s7 _ => n - (intOf s7).toNat)
  case atStart => exact ⟨0, none, 0, 0, [], false, Nat.zero_le _, rfl, rfl, rfl, Kept.refl _ _, Lib.hid rfl, rfl, by omega, Lib.hid (World.ownsRow_nil _ _ _ _), Lib.hid (fun j h => absurd h (by omega))⟩
  case round =>
  clear C0 F0
  obtain ⟨i, B, k, cB, o, pt, hi', rfl, rfl, rfl, hkr, HW, hok, hki, own, HNE⟩ := hrel
  have ⟨L0r, C0r, F0r⟩ := hkr.blk (by simp) B0
  have hBr : Below w.heap.size w wr := hkr.below hB hB.size (by simp)
  have hsr := hkr.size
  have HOK := Lib.hid hok
  have HX : Hid (∀ y ∈ (Value.slice B k cB).ownBlock.toList, W.heap.size ≤ y) := (fun y hy => own_ge own.out (by simpa using hy))
  clear hok
  by_cases hlt : i < n
  case neg =>
    obtain rfl : i = n := by omega
    have HNM : Hid (¬ (⟨xi, xo⟩ : Pr) ∈ l) := Lib.hid (fun hm => by
      obtain ⟨j, hj, e⟩ := mem_gp hm
      exact HNE.out j (by rw [← HL.out]; exact hj) e)
    have HWL : Hid (wsl ⟨xi, xo⟩ l = (o, pt)) := Lib.hid (by rw [← wsi_all (Nat.le_of_eq HL.out)]; exact HW.out)
    cases pt with
    | true =>
      have HR : Hid (withR l ⟨xi, xo⟩ = o) := Lib.hid (by unfold withR; rw [if_neg HNM.out, HWL.out, if_pos rfl])
      go_wp2_with fail
      go_ret
      obtain ⟨h1, h2⟩ := Prs.own own.out HOK.out
      exact ⟨B, k, cB, rfl, by rw [HR.out]; exact h1, h2, hBr⟩
    | false =>
      have HR : Hid (withR l ⟨xi, xo⟩ = o ++ [⟨xi, xo⟩]) := Lib.hid (by unfold withR; rw [if_neg HNM.out, HWL.out, if_neg (by simp)])
      have HAP := Lib.hid (prcells_snoc o ⟨xi, xo⟩)
      go_wp2_with (at_builtin; refine wpList_append_rd _ rfl _ _ 66 rfl W.heap.size 65 i0 (.agg #[.int .i64 0, .int .i64 0]) 2 16 Try.underlying66 hi hz0 hz1 hz2 rfl (by decide) (.slice B k cB) k (prcells o) rfl (own_keptT (X := []) own.out ((Kept.refl _ _).alloc _) (by simp)) (some ⟨wr.heap.size, 0, none⟩) 1 1 [.int .i64 xi, .int .i64 xo] rfl (new2T _ _ _ _ _ rfl) (fun h => by cases h) (by intro u hu; simp at hu; rcases hu with rfl | rfl <;> rfl) (k + 1) rfl _ HAP.out (by unfold maxLen; omega) (by omega) (by simp; omega) ?_; intro A9 c9 w4 hown4 hk4 hat4; have hk5 := Lib.hid ((hkr.alloc (.cells #[.int .i64 xi, .int .i64 xo] 65)).next hk4 (fun y hy => Or.inr (HX.out y hy))); have HO4 := Lib.hid hown4; clear hown4 hk4 hat4)
      go_ret
      obtain ⟨h1, h2⟩ := Prs.own (l := o ++ [⟨xi, xo⟩]) HO4.out (by rw [List.length_append, HOK.out]; rfl)
      exact ⟨A9, k + 1, c9, rfl, by rw [HR.out]; exact h1, h2, hk5.out.below hB hB.size (by simp)⟩
  obtain ⟨b, o1, rfl, hl0, hc⟩ := HP.out.2 (by omega)
  have HC := Lib.hid hc
  have hl : b < wr.heap.size := Nat.lt_of_lt_of_le hl0 hBr.size
  have h1 := (hBr.cell (p := ⟨b, _, none⟩) hl0).trans (hc i hlt).1
  have h2 := (hBr.cell (p := ⟨b, _, none⟩) hl0).trans (hc i hlt).2
  obtain ⟨yi, yo, en⟩ : ∃ yi yo, gp l i = ⟨yi, yo⟩ := ⟨_, _, rfl⟩
  rw [en] at h1 h2
  have HEN := Lib.hid en
  have hi9 : (i : Int) < (n : Int) := by omega
  clear hc en
  by_cases heq : yi = xi ∧ yo = xo
  · obtain ⟨rfl, rfl⟩ := heq
    have HR : Hid (withR l ⟨yi, yo⟩ = l) := Lib.hid (by
      unfold withR
      rw [if_pos (by rw [← HEN.out]; exact gp_mem (by rw [HL.out]; exact hlt))])
    go_upto_region 6 with fail
    go_quiet (fail)
    go_wp2_with fail
    go_ret
    exact ⟨_, n, c, rfl, by rw [HR.out]; exact (HP.out.later hBr).later (Kept.toBelow ((Kept.refl [] wr).drewN _)), hnc, ((hkr.drewN _).below hB hB.size (by simp))⟩
  have HNE2 : Hid (∀ j, j < i + 1 → gp l j ≠ ⟨xi, xo⟩) := Lib.hid (fun j hj => by
    rcases Nat.lt_or_ge j i with h9 | h9
    · exact HNE.out j h9
    · have hji : j = i := by omega
      rw [hji, HEN.out]
      intro h8
      injection h8 with h7 h6
      exact heq ⟨h7, h6⟩)
  have HWS : Hid (wsi ⟨xi, xo⟩ l (i + 1) = wst ⟨xi, xo⟩ (o, pt) ⟨yi, yo⟩) := Lib.hid (by rw [wsi_succ (by rw [HL.out]; exact hlt), HW.out, HEN.out])
  go_upto_region 6 with fail
  go_cut [19] (fun s wx => s = .bool false ∧ Kept [] wr wx)
  case first =>
    by_cases e1 : yi = xi
    · have e2 : ¬ yo = xo := fun h => heq ⟨e1, h⟩
      have z1 : (yi == xi) = true := by simpa using e1
      have z2 : (yo == xo) = false := by simpa using e2
      clear e1 e2 heq
      go_quiet (fail)
      go_wp2_with fail
      go_meet
      exact ⟨rfl, (Kept.refl [] wr).drewN _⟩
    · have z1 : (yi == xi) = false := by simpa using e1
      clear e1 heq
      go_quiet (fail)
      go_wp2_with fail
      go_meet
      exact ⟨rfl, (Kept.refl [] wr).drewN _⟩
  case rest =>
  obtain ⟨rfl, hkc⟩ := hcut
  have hkWc : Kept [] W wc := hkr.next hkc (by simp)
  have hBc : Below w.heap.size w wc := hkWc.below hB hB.size (by simp)
  have ⟨L0c, C0c, F0c⟩ := hkWc.blk (by simp) B0
  have hlc : b < wc.heap.size := Nat.lt_of_lt_of_le hl0 hBc.size
  have h1c := (hBc.cell (p := ⟨b, _, none⟩) hl0).trans (HC.out i hlt).1
  have h2c := (hBc.cell (p := ⟨b, _, none⟩) hl0).trans (HC.out i hlt).2
  rw [HEN.out] at h1c h2c
  clear C0r F0r h1 h2 heq
  cases pt with
  | true =>
    have HW2 : Hid (wsi ⟨xi, xo⟩ l (i + 1) = (o ++ [⟨yi, yo⟩], true)) := Lib.hid (by rw [HWS.out]; unfold wst; rw [if_neg (by simp)])
    go_upto_region 8 with fail
    go_cut [30] (fun s wx => s = .bool false ∧ Kept [] wc wx)
    case first =>
      go_quiet (fail)
      go_wp2_with fail
      go_meet
      exact ⟨rfl, (Kept.refl [] wc).drewN _⟩
    case rest =>
    obtain ⟨rfl, hkd⟩ := hcut
    rename World => wd
    have hkWd : Kept [] W wd := (hkr.next hkc (by simp)).next hkd (by simp)
    have hBd : Below w.heap.size w wd := hkWd.below hB hB.size (by simp)
    have ⟨L0d, C0d, F0d⟩ := hkWd.blk (by simp) B0
    have hld : b < wd.heap.size := Nat.lt_of_lt_of_le hl0 hBd.size
    have h1d := (hBd.cell (p := ⟨b, _, none⟩) hl0).trans (HC.out i hlt).1
    have h2d := (hBd.cell (p := ⟨b, _, none⟩) hl0).trans (HC.out i hlt).2
    rw [HEN.out] at h1d h2d
    have OWd := Lib.hid (own_keptT (X := []) own.out (hkc.next hkd (by simp)) (by simp))
    have HAP := Lib.hid (prcells_snoc o ⟨yi, yo⟩)
    have hsd := hkWd.size
    clear C0c F0c
    go_wp2_with (at_builtin; refine wpList_append_rd _ rfl _ _ 66 rfl W.heap.size 65 i0 (.agg #[.int .i64 0, .int .i64 0]) 2 16 Try.underlying66 hi hz0 hz1 hz2 rfl (by decide) (.slice B k cB) k (prcells o) rfl (own_keptT (X := []) OWd.out ((Kept.refl _ _).alloc _) (by simp)) (some ⟨wd.heap.size, 0, none⟩) 1 1 [.int .i64 yi, .int .i64 yo] rfl (new2T _ _ _ _ _ rfl) (fun h => by cases h) (by intro u hu; simp only [List.mem_cons, List.not_mem_nil, or_false] at hu; rcases hu with rfl | rfl <;> rfl) (k + 1) rfl _ HAP.out (by unfold maxLen; omega) (by omega) (by simp; omega) ?_; intro A9 c9 w4 hown4 hk4 hat4; have hk5 := Lib.hid ((hkWd.alloc (.cells #[.int .i64 yi, .int .i64 yo] 65)).next hk4 (fun y hy => Or.inr (HX.out y hy))); have HO4 := Lib.hid hown4; clear hown4 hk4 hat4)
    exact ⟨⟨i + 1, A9, k + 1, c9, o ++ [⟨yi, yo⟩], true, by omega, by go_num, rfl, rfl, hk5.out, HW2, by rw [List.length_append, HOK.out]; rfl, by omega, HO4, HNE2⟩, by simp [intOf]; omega⟩
  | false =>
    obtain ⟨v, hv⟩ : ∃ v, lessR ⟨xi, xo⟩ ⟨yi, yo⟩ = v := ⟨_, rfl⟩
    have HV := Lib.hid hv
    clear hv
    go_upto_region 8 with fail
    go_cut [30] (fun s wx => s = .bool v ∧ Kept [] wc wx)
    case first =>
      go_region_held3 (fun w' => SX0 wc w') (repeat' first | (with_reducible assumption) | (with_reducible exact SX0.init _) | (with_reducible exact SX0.refl _) | (with_reducible refine SX0.alloc ?_ _) | (with_reducible refine SX0.call ?_ (by assumption)) | (with_reducible refine SX0.set ?_ _ _ _ ?_) | (with_reducible refine SX0.drew ?_) | (simp; done) | omega | (simp; omega))
        (first | (go_at_call 85; refine (rpbefore_any xi xo yi yo _).mono ?_; rw [HV.out]; rintro e w3 ⟨rfl, hb3⟩; obtain ⟨hc3, hf3, hg3⟩ := bcell hb3; have hz3 := hb3.size; try simp at hz3))
      all_goals
        go_wp2_with fail
        go_meet
        refine ⟨rfl, ?_⟩
        (repeat' first | (with_reducible assumption) | (with_reducible exact Kept.refl _ _) | (with_reducible refine Kept.alloc ?_ _) | (with_reducible refine Kept.call ?_ (by assumption)) | (with_reducible refine Kept.set ?_ _ _ _ (Or.inr ?_)) | (with_reducible refine Kept.drew ?_) | (simp; done) | omega | (simp; omega))
    case rest =>
    obtain ⟨rfl, hkd⟩ := hcut
    rename World => wd
    have hkWd : Kept [] W wd := (hkr.next hkc (by simp)).next hkd (by simp)
    have hBd : Below w.heap.size w wd := hkWd.below hB hB.size (by simp)
    have ⟨L0d, C0d, F0d⟩ := hkWd.blk (by simp) B0
    have hld : b < wd.heap.size := Nat.lt_of_lt_of_le hl0 hBd.size
    have h1d := (hBd.cell (p := ⟨b, _, none⟩) hl0).trans (HC.out i hlt).1
    have h2d := (hBd.cell (p := ⟨b, _, none⟩) hl0).trans (HC.out i hlt).2
    rw [HEN.out] at h1d h2d
    have OWd := Lib.hid (own_keptT (X := []) own.out (hkc.next hkd (by simp)) (by simp))
    have HAP := Lib.hid (prcells_snoc o ⟨yi, yo⟩)
    have hsd := hkWd.size
    clear C0c F0c
    cases v with
    | false =>
      have HW2 : Hid (wsi ⟨xi, xo⟩ l (i + 1) = (o ++ [⟨yi, yo⟩], false)) := Lib.hid (by rw [HWS.out]; unfold wst; rw [if_neg (by rw [HV.out]; simp)])
      go_wp2_with (at_builtin; refine wpList_append_rd _ rfl _ _ 66 rfl W.heap.size 65 i0 (.agg #[.int .i64 0, .int .i64 0]) 2 16 Try.underlying66 hi hz0 hz1 hz2 rfl (by decide) (.slice B k cB) k (prcells o) rfl (own_keptT (X := []) OWd.out ((Kept.refl _ _).alloc _) (by simp)) (some ⟨wd.heap.size, 0, none⟩) 1 1 [.int .i64 yi, .int .i64 yo] rfl (new2T _ _ _ _ _ rfl) (fun h => by cases h) (by intro u hu; simp only [List.mem_cons, List.not_mem_nil, or_false] at hu; rcases hu with rfl | rfl <;> rfl) (k + 1) rfl _ HAP.out (by unfold maxLen; omega) (by omega) (by simp; omega) ?_; intro A9 c9 w4 hown4 hk4 hat4; have hk5 := Lib.hid ((hkWd.alloc (.cells #[.int .i64 yi, .int .i64 yo] 65)).next hk4 (fun y hy => Or.inr (HX.out y hy))); have HO4 := Lib.hid hown4; clear hown4 hk4 hat4)
      exact ⟨⟨i + 1, A9, k + 1, c9, o ++ [⟨yi, yo⟩], false, by omega, by go_num, rfl, rfl, hk5.out, HW2, by rw [List.length_append, HOK.out]; rfl, by omega, HO4, HNE2⟩, by simp [intOf]; omega⟩
    | true =>
      have HW2 : Hid (wsi ⟨xi, xo⟩ l (i + 1) = (o ++ [⟨xi, xo⟩] ++ [⟨yi, yo⟩], true)) := Lib.hid (by rw [HWS.out]; unfold wst; rw [if_pos ⟨rfl, HV.out⟩])
      have HAPx := Lib.hid (prcells_snoc o ⟨xi, xo⟩)
      have HAPy := Lib.hid (prcells_snoc (o ++ [⟨xi, xo⟩]) ⟨yi, yo⟩)
      go_upto_region 10 with (at_builtin; refine wpList_append_rd _ rfl _ _ 66 rfl W.heap.size 65 i0 (.agg #[.int .i64 0, .int .i64 0]) 2 16 Try.underlying66 hi hz0 hz1 hz2 rfl (by decide) (.slice B k cB) k (prcells o) rfl (own_keptT (X := []) OWd.out ((Kept.refl _ _).alloc _) (by simp)) (some ⟨wd.heap.size, 0, none⟩) 1 1 [.int .i64 xi, .int .i64 xo] rfl (new2T _ _ _ _ _ rfl) (fun h => by cases h) (by intro u hu; simp only [List.mem_cons, List.not_mem_nil, or_false] at hu; rcases hu with rfl | rfl <;> rfl) (k + 1) rfl _ HAPx.out (by unfold maxLen; omega) (by omega) (by simp; omega) ?_; intro A8 c8 w8 hown4 hk4 hat4; have hk8 := Lib.hid ((hkWd.alloc (.cells #[.int .i64 xi, .int .i64 xo] 65)).next hk4 (fun y hy => Or.inr (HX.out y hy))); have HO8 := Lib.hid hown4; clear hown4 hk4 hat4)
      have HX8 : Hid (∀ y ∈ (Value.slice A8 (k + 1) c8).ownBlock.toList, W.heap.size ≤ y) := (fun y hy => own_ge HO8.out (by simpa using hy))
      have hB8 : Below w.heap.size w w8 := hk8.out.below hB hB.size (by simp)
      have hl8 : b < w8.heap.size := Nat.lt_of_lt_of_le hl0 hB8.size
      have h18 := (hB8.cell (p := ⟨b, _, none⟩) hl0).trans (HC.out i hlt).1
      have h28 := (hB8.cell (p := ⟨b, _, none⟩) hl0).trans (HC.out i hlt).2
      rw [HEN.out] at h18 h28
      have hs8 := hk8.out.size
      clear C0d F0d h1d h2d
      go_wp2_with (at_builtin; refine wpList_append_rd _ rfl _ _ 66 rfl W.heap.size 65 i0 (.agg #[.int .i64 0, .int .i64 0]) 2 16 Try.underlying66 hi hz0 hz1 hz2 rfl (by decide) (.slice A8 (k + 1) c8) (k + 1) (prcells (o ++ [⟨xi, xo⟩])) rfl (own_keptT (X := []) HO8.out ((Kept.refl _ _).alloc _) (by simp)) (some ⟨w8.heap.size, 0, none⟩) 1 1 [.int .i64 yi, .int .i64 yo] rfl (new2T _ _ _ _ _ rfl) (fun h => by cases h) (by intro u hu; simp only [List.mem_cons, List.not_mem_nil, or_false] at hu; rcases hu with rfl | rfl <;> rfl) ((k + 1) + 1) rfl _ HAPy.out (by unfold maxLen; omega) (by omega) (by simp; omega) ?_; intro A9 c9 w4 hown4 hk4 hat4; have hk5 := Lib.hid ((hk8.out.alloc (.cells #[.int .i64 yi, .int .i64 yo] 65)).next hk4 (fun y hy => Or.inr (HX8.out y hy))); have HO4 := Lib.hid hown4; clear hown4 hk4 hat4)
      exact ⟨⟨i + 1, A9, k + 1 + 1, c9, o ++ [⟨xi, xo⟩] ++ [⟨yi, yo⟩], true, by omega, by go_num, rfl, rfl, hk5.out, HW2, by rw [List.length_append, List.length_append, HOK.out]; rfl, by omega, HO4, HNE2⟩, by simp [intOf]; omega⟩

set_option maxRecDepth 100000 in
set_option maxHeartbeats 4000000 in
theorem runion_any (A B : Option Addr) (n c m d : Nat) (f g : List Pr) (w : World) (hf : Prs w A n f) (hg : Prs w B m g) (hn : n ≤ 10000) (hm : m ≤ 10000) :
    Calls Try.prog 36 #[.slice A n c, .slice B m d] w fun e w' => ∃ A' n' c', e = .returned (.slice A' n' c') ∧ Prs w' A' n' (unionR f g) ∧ n' ≤ c' ∧ Below w.heap.size w w' := by
  have HF := Lib.hid hf
  have HG := Lib.hid hg
  have HLF := Lib.hid hf.1
  have HLG := Lib.hid hg.1
  clear hf hg
  go_enter Try.func36, Try.ntmps36
  go_wp2_with fail
  go_loopw [5, 6] (fun s5 s6 wr => ∃ (i : Nat) (Q : Option Addr) (k cQ : Nat), i ≤ n ∧ s6 = .int .i64 i ∧ s5 = .slice Q k cQ ∧ Kept [] w wr ∧ Hid (Prs wr Q k (unF f [] i)) ∧ k ≤ cQ ∧ k ≤ i) (fun _ s6 _ => n - (intOf s6).toNat)
  case atStart => exact ⟨0, none, 0, 0, Nat.zero_le _, rfl, rfl, Kept.refl _ _, Lib.hid ⟨rfl, fun h => absurd h (by omega)⟩, by omega, by omega⟩
  case round =>
  obtain ⟨i, Q, k, cQ, hi, rfl, rfl, hkr, HQ, hkc, hki⟩ := hrel
  by_cases hlt : i < n
  · obtain ⟨b, o, rfl, hl, hc⟩ := HF.out.2 (by omega)
    have h1 := (hkr.cell b _ hl (by simp)).trans (hc i hlt).1
    have h2 := (hkr.cell b _ hl (by simp)).trans (hc i hlt).2
    obtain ⟨yi, yo, en⟩ : ∃ yi yo, gp f i = ⟨yi, yo⟩ := ⟨_, _, rfl⟩
    rw [en] at h1 h2
    have hlr : b < wr.heap.size := Nat.lt_of_lt_of_le hl hkr.size
    have HS : Hid (unF f [] (i + 1) = withR (unF f [] i) ⟨yi, yo⟩) := Lib.hid (by rw [unF_succ (by rw [HLF.out]; exact hlt), en])
    have hi9 : (i : Int) < (n : Int) := by omega
    clear hc en
    go_wp2_with (go_at_call 83; refine (rwith_any Q k cQ _ yi yo _ HQ.out (by omega) hkc).mono ?_; rintro e w3 ⟨Q3, k3, c3, rfl, hq3, hk3, hb3⟩)
    have hlen : k3 ≤ i + 1 := by
      have h7 := unF_len f [] (i + 1)
      rw [HS.out, hq3.1] at h7
      simpa using h7
    exact ⟨⟨i + 1, Q3, k3, c3, by omega, by go_num, rfl, hkr.call hb3, Lib.hid (by rw [HS.out]; exact hq3), hk3, hlen⟩, by simp [intOf]; omega⟩
  obtain rfl : i = n := by omega
  have HU : Hid (unF f [] i = f.foldl withR []) := Lib.hid (unF_all (Nat.le_of_eq HLF.out))
  obtain ⟨s, hs⟩ : ∃ s, f.foldl withR [] = s := ⟨_, rfl⟩
  rw [HU.out, hs] at HQ
  have HSS := Lib.hid hs
  clear hs hlt
  go_wp2_with fail
  go_loopw [5, 7] (fun s5 s7 wz => ∃ (j : Nat) (Q' : Option Addr) (k' cQ' : Nat), j ≤ m ∧ s7 = .int .i64 j ∧ s5 = .slice Q' k' cQ' ∧ Kept [] w wz ∧ Hid (Prs wz Q' k' (unF g s j)) ∧ k' ≤ cQ' ∧ k' ≤ i + j) (fun _ s7 _ => m - (intOf s7).toNat)
  case atStart => exact ⟨0, Q, k, cQ, Nat.zero_le _, rfl, rfl, hkr, HQ, hkc, by omega⟩
  case round =>
  rename World => wz
  obtain ⟨j, Q', k', cQ', hj, rfl, rfl, hkz, HQ', hkc', hkj⟩ := hrel
  by_cases hlt : j < m
  · obtain ⟨b, o, rfl, hl, hc⟩ := HG.out.2 (by omega)
    have h1 := (hkz.cell b _ hl (by simp)).trans (hc j hlt).1
    have h2 := (hkz.cell b _ hl (by simp)).trans (hc j hlt).2
    obtain ⟨yi, yo, en⟩ : ∃ yi yo, gp g j = ⟨yi, yo⟩ := ⟨_, _, rfl⟩
    rw [en] at h1 h2
    have hlr : b < wz.heap.size := Nat.lt_of_lt_of_le hl hkz.size
    have HS : Hid (unF g s (j + 1) = withR (unF g s j) ⟨yi, yo⟩) := Lib.hid (by rw [unF_succ (by rw [HLG.out]; exact hlt), en])
    have hj9 : (j : Int) < (m : Int) := by omega
    have hsl : s.length = k := HQ.out.1
    have HSL := Lib.hid hsl
    clear hc en hsl
    go_wp2_with (go_at_call 83; refine (rwith_any Q' k' cQ' _ yi yo _ HQ'.out (by omega) hkc').mono ?_; rintro e w3 ⟨Q3, k3, c3, rfl, hq3, hk3, hb3⟩)
    have hlen : k3 ≤ i + (j + 1) := by
      have h7 := unF_len g s (j + 1)
      rw [HS.out, hq3.1, HSL.out] at h7
      omega
    exact ⟨⟨j + 1, Q3, k3, c3, by omega, by go_num, rfl, hkz.call hb3, Lib.hid (by rw [HS.out]; exact hq3), hk3, hlen⟩, by simp [intOf]; omega⟩
  obtain rfl : j = m := by omega
  have HE : Hid (unF g s j = unionR f g) := Lib.hid (by rw [unF_all (Nat.le_of_eq HLG.out)]; unfold unionR; rw [HSS.out])
  go_wp2_with fail
  go_ret
  exact ⟨Q', k', cQ', rfl, by rw [← HE.out]; exact HQ'.out, hkc', hkz.toBelow⟩
end Go.Proofs.Ytffkikhknabddaa
