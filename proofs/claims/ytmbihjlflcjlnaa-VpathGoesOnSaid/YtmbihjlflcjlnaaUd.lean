/- One row of slices of numbers that a call owns; the contract of outs. -/
import Derived.Test.YtmbihjlflcjlnaaOk
import Derived.Test.YtmbihjlflcjlnaaIa
namespace Go.Df
open Go.RowKit
/-- A row of N slices of numbers; each slice has a block of its own, not below lim. -/
structure Rw1 (e : TypeId) (lim : Nat) (w : World) (r N : Nat) (v : Nat → Value) (l : Nat → List Int) : Prop where
  cell : ∀ i, i < N → w.cell? ⟨r, i, none⟩ = some (v i)
  fr : ∀ i, w.frozen? ⟨r, i, none⟩ = false
  rlt : r < lim
  hlim : lim ≤ w.heap.size
  own : ∀ i, i < N → w.ownsRow lim e 1 (v i) (l i).length ((l i).map (Value.int .i64))
  vv : ∀ i i' x, i < N → i' < N → (v i).ownBlock = some x → (v i').ownBlock = some x → i = i'
open Classical in
noncomputable def upd1 {α : Type} (f : Nat → α) (i : Nat) (x : α) : Nat → α := fun i' => if i' = i then x else f i'
theorem upd1_at {α : Type} (f : Nat → α) (i : Nat) (x : α) : upd1 f i x i = x := by simp [upd1]
theorem upd1_ne {α : Type} {f : Nat → α} {i i' : Nat} {x : α} (h : ¬ i' = i) : upd1 f i x i' = f i' := by simp [upd1, h]
section
variable {e : TypeId} {lim : Nat} {w w1 : World} {r N : Nat} {v : Nat → Value} {l : Nat → List Int}
theorem Rw1.kept {X : List Nat} (h : Rw1 e lim w r N v l) (hk : Kept X w w1) (hX : ∀ x ∈ X, x ≠ r ∧ ∀ i, i < N → (v i).ownBlock ≠ some x) : Rw1 e lim w1 r N v l := by
  have hr : r ∉ X := fun hm => (hX _ hm).1 rfl
  have hrl : r < w.heap.size := Nat.lt_of_lt_of_le h.rlt h.hlim
  exact ⟨fun i hi => (hk.cell r i hrl hr).trans (h.cell i hi), fun i => (hk.frozen r i hrl hr).trans (h.fr i), h.rlt, Nat.le_trans h.hlim hk.size,
    fun i hi => own_kept2 (h.own i hi) hk (fun g hg hm => (hX g hm).2 i hi hg), h.vv⟩
/-- A slice gets one more number. -/
theorem Rw1.snoc {i : Nat} {v' : Value} {l' : List Int} (h : Rw1 e lim w r N v l) (hi : i < N) (hk : Kept (v i).ownBlock.toList w w1) (hv : w1.ownsRow lim e 1 v' l'.length (l'.map (Value.int .i64)))
    (hg : ∀ g, v'.ownBlock = some g → (v i).ownBlock = some g ∨ w.heap.size ≤ g) : Rw1 e lim (w1.setCell ⟨r, i, none⟩ v') r N (upd1 v i v') (upd1 l i l') := by
  have hrl : r < w.heap.size := Nat.lt_of_lt_of_le h.rlt h.hlim
  have hvr : ∀ i' g, i' < N → (v i').ownBlock = some g → g ≠ r := fun i' g hi' hg' e => by
    have h1 := own_ge (h.own i' hi') hg'
    have h2 := h.rlt
    omega
  have hrn : r ∉ (v i).ownBlock.toList := fun hm => hvr i _ hi (by simpa using hm) rfl
  have hk2 : Kept (r :: (v i).ownBlock.toList) w (w1.setCell ⟨r, i, none⟩ v') := (keptWide hk (fun x hx => List.mem_cons_of_mem _ hx)).set r i v' (.inl (by simp))
  have hv'r : ∀ g, v'.ownBlock = some g → g ≠ r := fun g hg' => by
    rcases hg g hg' with h1 | h1
    · exact hvr i g hi h1
    · omega
  refine ⟨fun i' hi' => ?_, fun i' => ?_, h.rlt, Nat.le_trans h.hlim (by simpa [World.setCell] using hk.size), fun i' hi' => ?_, fun i1 i2 x h3 h4 h5 h6 => ?_⟩
  · have hc := (hk.cell r i' hrl hrn).trans (h.cell i' hi')
    by_cases e1 : i' = i
    · subst e1
      rw [upd1_at]
      exact set_same hc
    · rw [upd1_ne e1, set_other]
      · exact hc
      · right; intro e3; exact e1 e3.symm
  · have := (hk.frozen r i' hrl hrn).trans (h.fr i')
    simpa using this
  · by_cases e1 : i' = i
    · subst e1
      rw [upd1_at, upd1_at]
      exact own_kept2 hv ((Kept.refl [r] w1).set r i' v' (.inl (by simp))) (fun g hg' => by simpa using hv'r g hg')
    · rw [upd1_ne e1, upd1_ne e1]
      refine own_kept2 (h.own i' hi') hk2 (fun g hg' hm => ?_)
      rcases List.mem_cons.1 hm with h1 | h1
      · exact hvr i' g hi' hg' h1
      · exact e1 (h.vv i' i g hi' hi hg' (by simpa using h1))
  · by_cases e1 : i1 = i
    · subst e1
      rw [upd1_at] at h5
      by_cases e2 : i2 = i1
      · exact e2.symm
      · rw [upd1_ne e2] at h6
        rcases hg x h5 with h7 | h7
        · exact h.vv i1 i2 x h3 h4 h7 h6
        · have := own_lt2 (h.own i2 h4) h6; omega
    · rw [upd1_ne e1] at h5
      by_cases e2 : i2 = i
      · subst e2
        rw [upd1_at] at h6
        rcases hg x h6 with h7 | h7
        · exact h.vv i1 i2 x h3 h4 h5 h7
        · have := own_lt2 (h.own i1 h3) h5; omega
      · rw [upd1_ne e2] at h6
        exact h.vv i1 i2 x h3 h4 h5 h6
theorem Rw1.init {tS : TypeId} {g n : Nat} {MR : Array Value} (e : TypeId) (h4 : w.heap[g]? = some (.cells MR tS (0, 0))) (hM : ∀ i, i < n → MR[i]? = some (.slice none 0 0)) : Rw1 e w.heap.size w g n (fun _ => .slice none 0 0) (fun _ => []) := by
  refine ⟨fun i hi => by simp [World.cell?, h4, hM i hi], fun i => by simp [World.frozen?, h4], (Array.getElem?_eq_some_iff.1 h4).1, Nat.le_refl _, fun i _ => World.ownsRow_nil _ _ _ _, fun i i' x _ _ h _ => by cases h⟩
theorem Rw1.ext {l' : Nat → List Int} (h : Rw1 e lim w r N v l) (hl : ∀ i, l i = l' i) : Rw1 e lim w r N v l' := by
  obtain rfl : l = l' := funext hl
  exact h
end
namespace Rc
open Sp If
def LO (es : List Ed) (k i : Nat) : List Int := ofNats ((List.range k).filter fun k => (ge es k).a == (i : Int))
theorem LO_succ {es : List Ed} {k ea : Nat} (h : (ge es k).a = (ea : Int)) : LO es (k + 1) = upd1 (LO es k) ea (LO es k ea ++ [(k : Int)]) := by
  funext i
  unfold LO
  rw [filter_one]
  by_cases e : i = ea
  · subst e
    rw [upd1_at, if_pos (by simp [h]), ofNats_snoc]
  · rw [upd1_ne e, if_neg (by simp [h]; omega)]
theorem LO_len (es : List Ed) (k i : Nat) : (LO es k i).length ≤ k := by
  unfold LO ofNats
  rw [List.length_map]
  exact Nat.le_trans (List.length_filter_le _ _) (by simp)
end Rc
end Go.Df
namespace Go.Proofs.Ytmbihjlflcjlnaa
open Go.RowKit Go.Df Go.Df.If Go.Df.Rc
attribute [local go_sem ↓] Go.wp_at_zero Go.wp_at_succ

set_option maxRecDepth 100000 in
set_option maxHeartbeats 10000000 in
theorem outs_any (A1 A2 : Option Addr) (n1 c1 n2 c2 : Nat) (mn : Int) (ns : List Sp.Nd) (es : List Sp.Ed) (w : World) (hnd : Nds w A1 n1 ns) (hed : Eds w A2 n2 es) (hs : Sp.superErr ns es mn = 0) :
    Calls Try.prog 27 #[.agg #[.slice A1 n1 c1, .slice A2 n2 c2, .int .i64 mn]] w fun e w' =>
      ∃ g lim v, e = .returned (.slice (some ⟨g, 0, none⟩) n1 n1) ∧ Rw1 3 lim w' g n1 v (LO es n2) ∧ w.heap.size ≤ g ∧ w.heap.size ≤ lim ∧ Below w.heap.size w w' := by
  have hN1 : n1 ≤ 8192 := by have := (sup_parts hs).1; have := hnd.1; omega
  have hE2 : n2 ≤ 32768 := by have := (sup_parts hs).2.1; have := hed.1; omega
  have HND := Lib.hid hnd
  have HED := Lib.hid hed
  have HS := Lib.hid hs
  obtain ⟨MR, hMR⟩ : ∃ M, (List.replicate n1 (Value.slice none 0 0)).toArray = M := ⟨_, rfl⟩
  obtain ⟨i1, j1, j2, j3, j4⟩ := info_parts int_info
  obtain ⟨i2, l1, l2, l3, l4⟩ := info_parts row_info
  have hmkR := fun w => run_make1 (P := Try.prog) Try.underlying33 l1 l2 l3 l4 rfl n1 (by omega) (by omega) MR hMR w
  have HMR := Lib.hid hMR
  clear hMR hnd hed hs
  go_enter Try.func27, Try.ntmps27
  go_upto_region 1 with fail
  refine wp_named (fun W => ∃ b0, w.heap.size = b0 ∧ Blk W b0 [.slice A1 n1 c1, .slice A2 n2 c2, .int .i64 mn] ∧ Below w.heap.size w W) ⟨_, rfl, ?_, ?_⟩ ?_
  · exact Blk.new _ _ _ _ (by first | rfl | simp)
  · go_grown
  rintro W ⟨b0, e0, B0, hB⟩
  rw [e0]
  have G0 : w.heap.size ≤ b0 := by omega
  clear e0
  have ⟨L0, C0, F0⟩ := B0
  go_upto_region 2 with fail
  -- MARK1
  refine wp_named (fun X => ∃ g, W.heap.size = g ∧ X.heap[g]? = some (.cells MR 26 (0, 0)) ∧ Kept [] W X) ⟨_, rfl, heap_alloc_new _ _, (Kept.refl _ _).alloc _⟩ ?_
  rintro V ⟨g, eg, OV, hkV⟩
  rw [eg]
  have HMRi : Hid (∀ i, i < n1 → MR[i]? = some (.slice none 0 0)) := fun i hi => by rw [← HMR.out]; exact rep_at hi
  have ⟨L0v, C0v, F0v⟩ := hkV.blk (by simp) B0
  have R0 := Lib.hid (Rw1.init 3 OV HMRi.out)
  have hgW : W.heap.size ≤ g := by omega
  have hgV : g < V.heap.size := (Array.getElem?_eq_some_iff.1 OV).1
  have hkwV : Kept [] w V := keptTrans ((Kept.refl _ _).call hB) hkV
  clear C0 F0 hmkR OV
  go_wp2_with fail
  clear C0v F0v
  -- MARK2
  go_loopw [13] (fun s13 wq => ∃ (k : Nat) (v : Nat → Value), k ≤ n2 ∧ s13 = .int .i64 k ∧ Kept [g] V wq ∧ Hid (Rw1 3 V.heap.size wq g n1 v (LO es k))) (fun s13 _ => n2 - (intOf s13).toNat)
  case atStart => exact ⟨0, _, Nat.zero_le _, rfl, Kept.refl _ _, R0⟩
  case round =>
  clear R0
  rename World => wq
  obtain ⟨k, v, hk, rfl, hkq, RQ⟩ := hrel
  by_cases hlt : k < n2
  · obtain ⟨b2, o2, rfl, hl2, hc2⟩ := HED.out.2 (by omega)
    have hke : k < es.length := by rw [HED.out.1]; exact hlt
    obtain ⟨r1, r2, r3, r4⟩ := hc2 k hlt
    have hl23 : b2 < V.heap.size := Nat.lt_of_lt_of_le hl2 hkwV.size
    have hb2n : b2 ∉ [g] := fun hm => by have h1 := List.mem_singleton.1 hm; have h2 := hB.size; omega
    replace r1 := (hkq.cell b2 _ hl23 hb2n).trans ((hkwV.cell b2 _ hl2 (by simp)).trans r1)
    replace r2 := (hkq.cell b2 _ hl23 hb2n).trans ((hkwV.cell b2 _ hl2 (by simp)).trans r2)
    replace r3 := (hkq.cell b2 _ hl23 hb2n).trans ((hkwV.cell b2 _ hl2 (by simp)).trans r3)
    replace r4 := (hkq.cell b2 _ hl23 hb2n).trans ((hkwV.cell b2 _ hl2 (by simp)).trans r4)
    have hl2q : b2 < wq.heap.size := Nat.lt_of_lt_of_le hl23 hkq.size
    have hed := sup_edge HS.out hke
    obtain ⟨ea, hea⟩ := Int.eq_ofNat_of_zero_le hed.1
    obtain ⟨eb, heb⟩ : ∃ x, (ge es k).b = x := ⟨_, rfl⟩
    obtain ⟨ek, hek⟩ : ∃ x, (ge es k).k = x := ⟨_, rfl⟩
    obtain ⟨ec, hec⟩ : ∃ x, (ge es k).c = x := ⟨_, rfl⟩
    rw [hea] at r1
    rw [heb] at r2
    rw [hek] at r3
    rw [hec] at r4
    have hea1 : ea < n1 := by have h1 := HND.out.1; have h2 := hed.2.1; omega
    have HEA := Lib.hid hea
    have hk1 : (k : Int) < (n2 : Int) := by omega
    have hea1' : (ea : Int) < (n1 : Int) := by omega
    clear hc2 hea heb hek hec hed
    go_upto_region 5 with fail
    -- MARK3
    refine wp_named (fun X => ∃ y, wq.heap.size = y ∧ Blk X y [.int .i64 ea, .int .i64 eb, .int .i64 ek, .int .i64 ec] ∧ Kept [] wq X) ⟨_, rfl, Blk.new _ _ _ _ rfl, (Kept.refl _ _).alloc _⟩ ?_
    rintro X1 ⟨y, ey, By, hkX⟩
    rw [ey]
    have ⟨Ly, Cy, Fy⟩ := By
    have hk3X1 : Kept [g] V X1 := hkq.next hkX (by simp)
    have RW1 := Lib.hid (RQ.out.kept hkX (by simp))
    have HY1 : Hid (∀ i x, i < n1 → (v i).ownBlock = some x → x ≠ y) := fun i x hi hx => by have := own_lt2 (RQ.out.own i hi) hx; omega
    have hyX1 : y < X1.heap.size := Ly
    have hrX1 : g < X1.heap.size := Nat.lt_of_lt_of_le RW1.out.rlt RW1.out.hlim
    clear r1 r2 r3 r4 ey RQ
    obtain ⟨A91, m91, c91, hv91, hm91⟩ : ∃ A9 m9 c9, v ea = .slice A9 m9 c9 ∧ m9 = (LO es k ea).length := by
      rcases (RW1.out.own ea hea1).2 with ⟨h1, h2⟩ | ⟨g', cap, cur, h1, _⟩
      · exact ⟨_, _, _, h1, h2.symm⟩
      · exact ⟨_, _, _, h1, rfl⟩
    have OWN1 : Hid (X1.ownsRow V.heap.size 3 1 (.slice A91 m91 c91) m91 ((LO es k ea).map (Value.int .i64))) := Lib.hid (by have h9 := RW1.out.own ea hea1; rw [hv91, ← hm91] at h9; exact h9)
    have rX1 : X1.cell? ⟨g, ea, none⟩ = some (.slice A91 m91 c91) := by rw [← hv91]; exact RW1.out.cell ea hea1
    have fX1 : X1.frozen? ⟨g, ea, none⟩ = false := RW1.out.fr ea
    have oX1 : ∀ x, x ∈ (Value.slice A91 m91 c91).ownBlock.toList → V.heap.size ≤ x ∧ x ≠ y := fun x hx => by
      have h1 : (v ea).ownBlock = some x := by rw [hv91]; simpa using hx
      exact ⟨own_ge (RW1.out.own ea hea1) h1, HY1.out ea x hea1 h1⟩
    have xy1 : y ∉ (Value.slice A91 m91 c91).ownBlock.toList := fun hm => (oX1 _ hm).2 rfl
    have xr1 : g ∉ (Value.slice A91 m91 c91).ownBlock.toList := fun hm => by have h1 := (oX1 _ hm).1; omega
    have hm9b1 : m91 ≤ 1000000 := by rw [hm91]; have := LO_len es k ea; omega
    have hlX1 : V.heap.size ≤ X1.heap.size := RW1.out.hlim
    have HAB1 : Hid ((LO es k ea ++ [(k : Int)]).map (Value.int .i64) = (LO es k ea).map (Value.int .i64) ++ [.int .i64 (k : Int)]) := Lib.hid (by simp)
    have HV91 := Lib.hid hv91
    have HM91 := Lib.hid hm91
    have OX1 := Lib.hid oX1
    clear hv91 hm91 oX1
    refine wp_region_E 12 (fun w' => SXt (Value.slice A91 m91 c91).ownBlock.toList y y g X1 w') (by kernel_rfl) (by (first | (with_reducible assumption) | exact SXt.of (Kept.refl _ _).drew hyX1 hyX1 hrX1 xy1 xy1 xr1 | exact SXt.of (hHeld.1.alloc _) hyX1 hyX1 hrX1 xy1 xy1 xr1 | exact SXt.of HKA1.out hyX1 hyX1 hrX1 xy1 xy1 xr1)) (fun hHeld => ?_)
    refine WE_take 0 (v := ?_) rfl (by kernel_rfl) (fun _ _ _ h => h) (Or.inl ⟨by rfl, ?_⟩) (by assumption) ?_; rotate_left; (· intro w9 hSw; (try dsimp only at hSw); go_simp; try with_reducible rfl); (try simp only [Act.put, List.setIfInBounds_toArray, List.set_cons_zero, List.set_cons_succ])
    refine WE_take 1 (v := ?_) rfl (by kernel_rfl) (fun _ _ _ h => h) (Or.inl ⟨by rfl, ?_⟩) (by assumption) ?_; rotate_left; (· intro w9 hSw; (try dsimp only at hSw); go_simp; try with_reducible rfl); (try simp only [Act.put, List.setIfInBounds_toArray, List.set_cons_zero, List.set_cons_succ])
    refine WE_take 2 (v := ?_) rfl (by kernel_rfl) (fun _ _ _ h => h) (Or.inl ⟨by rfl, ?_⟩) (by assumption) ?_; rotate_left; (· intro w9 hSw; (try dsimp only at hSw); go_simp; try with_reducible rfl); (try simp only [Act.put, List.setIfInBounds_toArray, List.set_cons_zero, List.set_cons_succ])
    refine WE_take 3 (v := ?_) rfl (by kernel_rfl) (fun _ _ _ h => h) (Or.inl ⟨by rfl, ?_⟩) (by assumption) ?_; rotate_left; (· intro w9 hSw; (try dsimp only at hSw); go_simp; try with_reducible rfl); (try simp only [Act.put, List.setIfInBounds_toArray, List.set_cons_zero, List.set_cons_succ])
    refine WE_take 4 (v := ?_) rfl (by kernel_rfl) (fun _ _ _ h => h) (Or.inl ⟨by rfl, ?_⟩) (by assumption) ?_; rotate_left; (· intro w9 hSw; (try dsimp only at hSw); go_simp; try with_reducible rfl); (try simp only [Act.put, List.setIfInBounds_toArray, List.set_cons_zero, List.set_cons_succ])
    refine WE_take 5 (v := ?_) rfl (by kernel_rfl) (fun _ _ _ h => h) (Or.inl ⟨by rfl, ?_⟩) (by assumption) ?_; rotate_left; (· intro w9 hSw; (try dsimp only at hSw); go_simp; try with_reducible rfl); (try simp only [Act.put, List.setIfInBounds_toArray, List.set_cons_zero, List.set_cons_succ])
    refine WE_take 6 (v := ?_) rfl (by kernel_rfl) (fun _ _ _ h => h) (Or.inl ⟨by rfl, ?_⟩) (by assumption) ?_; rotate_left; (· intro w9 hSw; (try dsimp only at hSw); go_simp; try with_reducible rfl); (try simp only [Act.put, List.setIfInBounds_toArray, List.set_cons_zero, List.set_cons_succ])
    refine WE_take 7 (v := ?_) rfl (by kernel_rfl) (fun _ _ _ h => h) (Or.inl ⟨by rfl, ?_⟩) (by assumption) ?_; rotate_left; (· intro w9 hSw; (try dsimp only at hSw); go_simp; try with_reducible rfl); (try simp only [Act.put, List.setIfInBounds_toArray, List.set_cons_zero, List.set_cons_succ])
    refine WE_take 8 (v := ?_) rfl (by kernel_rfl) (fun _ _ _ h => h) (Or.inl ⟨by rfl, ?_⟩) (by assumption) ?_; rotate_left; (· intro w9 hSw; (try dsimp only at hSw); go_simp; try with_reducible rfl); (try simp only [Act.put, List.setIfInBounds_toArray, List.set_cons_zero, List.set_cons_succ])
    refine WE_step 9 rfl (by kernel_rfl) (fun K hK => ?_)
    go_simp
    refine hK.out _ _ ?_ (fun hHeld => ?_)
    · (first | (with_reducible assumption) | exact SXt.of (Kept.refl _ _).drew hyX1 hyX1 hrX1 xy1 xy1 xr1 | exact SXt.of (hHeld.1.alloc _) hyX1 hyX1 hrX1 xy1 xy1 xr1 | exact SXt.of HKA1.out hyX1 hyX1 hrX1 xy1 xy1 xr1)
    clear hK K
    try simp only [Act.put, List.setIfInBounds_toArray, List.set_cons_zero, List.set_cons_succ]
    refine WE_step 10 rfl (by kernel_rfl) (fun K hK => ?_)
    (refine step_append_rd _ rfl _ _ 26 rfl V.heap.size 3 i1 (.int .i64 0) 1 8 Try.underlying26 j1 j2 j3 j4 rfl (by decide) (.slice A91 m91 c91) m91 _ rfl (own_kept2 (X := []) OWN1.out (((Kept.refl [] X1).drew).alloc _) (by simp)) (some ⟨X1.heap.size, 0, none⟩) 1 1 [.int .i64 (k : Int)] rfl (Rd.new1 _ _ _ _ rfl) (fun h => by cases h) (by intro u hu; simp at hu; subst hu; rfl) (m91 + 1) rfl _ HAB1.out.symm (by unfold maxLen; omega) (by omega) (by simp; omega) ?_; intro A81 c81 w81 hown8 hk8 hat8; have hkA : Kept (Value.slice A91 m91 c91).ownBlock.toList X1 w81 := (((Kept.refl _ X1).drew).alloc _).next hk8 (fun y hy => Or.inl hy); have fX81 := (hkA.frozen _ ea hrX1 xr1).trans fX1; have HO81 := Lib.hid hown8; have HKA1 := Lib.hid hkA; have HAT1 := Lib.hid hat8; clear hown8 hk8 hat8 hkA)
    refine hK.out _ _ ?_ (fun hHeld => ?_)
    · (first | (with_reducible assumption) | exact SXt.of (Kept.refl _ _).drew hyX1 hyX1 hrX1 xy1 xy1 xr1 | exact SXt.of (hHeld.1.alloc _) hyX1 hyX1 hrX1 xy1 xy1 xr1 | exact SXt.of HKA1.out hyX1 hyX1 hrX1 xy1 xy1 xr1)
    clear hK K
    try simp only [Act.put, List.setIfInBounds_toArray, List.set_cons_zero, List.set_cons_succ]
    refine WE_take 11 (v := ?_) rfl (by kernel_rfl) (fun _ _ _ h => h) (Or.inl ⟨by rfl, ?_⟩) (by assumption) ?_; rotate_left; (· intro w9 hSw; (try dsimp only at hSw); go_simp; try with_reducible rfl); (try simp only [Act.put, List.setIfInBounds_toArray, List.set_cons_zero, List.set_cons_succ])
    refine WE_last rfl (by kernel_rfl) (fun K hK => ?_)
    go_simp
    refine hK.out _ _ ?_
    clear hK K
    -- MARK4
    have hl81 : (LO es k ea ++ [(k : Int)]).length = m91 + 1 := by rw [List.length_append, HM91.out]; rfl
    have hga1 : ∀ x, (Value.slice A81 (m91 + 1) c81).ownBlock = some x → (v ea).ownBlock = some x ∨ X1.heap.size ≤ x := fun x hx => by rw [HV91.out]; rcases HAT1.out x hx with h1 | h1; (· exact .inl h1); (· right; rw [h1]; simp)
    have hsn1 := RW1.out.snoc (i := ea) (v' := .slice A81 (m91 + 1) c81) (l' := LO es k ea ++ [(k : Int)]) hea1 (by rw [HV91.out]; exact HKA1.out) (by rw [hl81]; exact HO81.out) hga1
    refine act_named (fun Z => Rw1 3 V.heap.size Z g n1 (upd1 v ea (.slice A81 (m91 + 1) c81)) (upd1 (LO es k) ea (LO es k ea ++ [(k : Int)])) ∧ Kept (g :: (Value.slice A91 m91 c91).ownBlock.toList) X1 Z) ⟨hsn1, (keptWide HKA1.out (fun x hx => List.mem_cons_of_mem _ hx)).set g ea _ (.inl (by simp))⟩ ?_
    rintro Z1 ⟨hRZ1, hkZ1⟩
    have hkZ31 : Kept [g] V Z1 := hk3X1.next hkZ1 (fun x hx => by
      rcases List.mem_cons.1 hx with rfl | h1
      · left; simp
      · right; exact (OX1.out x h1).1)
    have RW2 := Lib.hid hRZ1
    have HEA2 := HEA
    clear hRZ1 rX1 fX1 xy1 xr1 OWN1 hsn1 hga1 hl81 HAB1 Cy Fy
    go_wp2_with fail
    exact ⟨⟨k + 1, _, by omega, by go_num, hkZ31, Lib.hid (by rw [LO_succ HEA2.out]; exact RW2.out)⟩, by simp [intOf]; omega⟩
  obtain rfl : n2 = k := by omega
  -- MARK5
  go_wp2_with fail
  go_returns
  -- MARK6
  exact ⟨g, V.heap.size, v, rfl, RQ.out, by have := hB.size; omega, by have := hB.size; have := hkV.size; omega, (kept_fresh ((Kept.refl _ _).call hB) (kept_fresh hkV hkq (by simpa using hgW)) (by simp)).toBelow⟩
end Go.Proofs.Ytmbihjlflcjlnaa
