/- The search for the reached nodes in memory; the contract of its add. -/
import Derived.Test.YtffkikhknabddaaUd
namespace Go.Df
open Go.RowKit
/-- The front of a slice of one's own. -/
theorem own_front1 {w : World} {base : Nat} {e : TypeId} {A : Option Addr} {n c : Nat} {xs : List Value} (h : w.ownsRow base e 1 (.slice A n c) n xs) {k : Nat} (hk : k ≤ n) (h0 : 0 < n) : w.ownsRow base e 1 (.slice A k c) k (xs.take k) := by
  obtain ⟨hl, h | ⟨g, cap, cur, hv, hb, hg, hc, hm, hs, ht⟩⟩ := h
  · omega
  · injection hv with e1 e2 e3
    subst e1
    subst e3
    refine ⟨by simp; omega, .inr ⟨g, c, cur, rfl, hb, hg, by omega, hm, hs, ?_⟩⟩
    rw [← ht, List.take_take]
    congr 1
    omega
namespace Rc
open Sp If
/-- The search's state in memory. -/
structure Rm (ti : TypeId) (lim : Nat) (w : World) (t6 t8 gr gw n : Nat) (v : Nat → Value) (tv : Value) (s : Rs) : Prop where
  c6 : w.cell? ⟨t6, 0, none⟩ = some (.slice (some ⟨gr, 0, none⟩) n n)
  f6 : w.frozen? ⟨t6, 0, none⟩ = false
  c8 : w.cell? ⟨t8, 0, none⟩ = some tv
  f8 : w.frozen? ⟨t8, 0, none⟩ = false
  cr : ∀ i, i < n → w.cell? ⟨gr, i, none⟩ = some (.bool (s.r i))
  fr : ∀ i, w.frozen? ⟨gr, i, none⟩ = false
  l6 : t6 < lim
  l8 : t8 < lim
  lr : gr < lim
  hlim : lim ≤ w.heap.size
  own : w.ownsRow lim ti 1 tv s.t.length ((ofNats s.t).map (Value.int .i64))
  wt : Rw1 ti lim w gw n v (fun i => ofNats (s.w i))
  tw : ∀ i x, i < n → (v i).ownBlock = some x → tv.ownBlock ≠ some x
  n1 : t6 ≠ t8
  n2 : t6 ≠ gr
  n3 : t6 ≠ gw
  n4 : t8 ≠ gr
  n5 : t8 ≠ gw
  n6 : gr ≠ gw
section
variable {ti : TypeId} {lim : Nat} {w w1 : World} {t6 t8 gr gw n : Nat} {v : Nat → Value} {tv : Value} {s : Rs}
theorem Rm.low (h : Rm ti lim w t6 t8 gr gw n v tv s) {x : Nat} (hx : x < lim) : tv.ownBlock ≠ some x := fun e => by have := own_ge h.own e; omega
theorem Rm.loww (h : Rm ti lim w t6 t8 gr gw n v tv s) {i x : Nat} (hi : i < n) (hx : x < lim) : (v i).ownBlock ≠ some x := fun e => by have := own_ge (h.wt.own i hi) e; omega
theorem Rm.lw (h : Rm ti lim w t6 t8 gr gw n v tv s) : gw < lim := h.wt.rlt
/-- Nothing that the search knows was touched. -/
theorem Rm.kept {X : List Nat} (h : Rm ti lim w t6 t8 gr gw n v tv s) (hk : Kept X w w1) (h6 : t6 ∉ X) (h8 : t8 ∉ X) (hr : gr ∉ X) (hw : gw ∉ X) (ht : ∀ x ∈ X, tv.ownBlock ≠ some x) (hv : ∀ x ∈ X, ∀ i, i < n → (v i).ownBlock ≠ some x) : Rm ti lim w1 t6 t8 gr gw n v tv s := by
  have a6 : t6 < w.heap.size := Nat.lt_of_lt_of_le h.l6 h.hlim
  have a8 : t8 < w.heap.size := Nat.lt_of_lt_of_le h.l8 h.hlim
  have ar : gr < w.heap.size := Nat.lt_of_lt_of_le h.lr h.hlim
  exact ⟨(hk.cell t6 0 a6 h6).trans h.c6, (hk.frozen t6 0 a6 h6).trans h.f6, (hk.cell t8 0 a8 h8).trans h.c8, (hk.frozen t8 0 a8 h8).trans h.f8, fun i hi => (hk.cell gr i ar hr).trans (h.cr i hi), fun i => (hk.frozen gr i ar hr).trans (h.fr i), h.l6, h.l8, h.lr, Nat.le_trans h.hlim hk.size,
    own_kept2 h.own hk (fun g hg hm => ht g hm hg), h.wt.kept hk (fun x hx => ⟨fun e => hw (e ▸ hx), hv x hx⟩), h.tw, h.n1, h.n2, h.n3, h.n4, h.n5, h.n6⟩
theorem Rm.same (h : Rm ti lim w t6 t8 gr gw n v tv s) (hk : Kept [] w w1) : Rm ti lim w1 t6 t8 gr gw n v tv s := h.kept hk (by simp) (by simp) (by simp) (by simp) (by simp) (by simp)
/-- A node is marked. -/
theorem Rm.mark (h : Rm ti lim w t6 t8 gr gw n v tv s) {k : Nat} : Rm ti lim (w.setCell ⟨gr, k, none⟩ (.bool true)) t6 t8 gr gw n v tv ⟨fun x => s.r x || x == k, s.w, s.t⟩ := by
  have hk : Kept [gr] w (w.setCell ⟨gr, k, none⟩ (.bool true)) := (Kept.refl [gr] w).set gr k _ (.inl (by simp))
  have a6 : t6 < w.heap.size := Nat.lt_of_lt_of_le h.l6 h.hlim
  have a8 : t8 < w.heap.size := Nat.lt_of_lt_of_le h.l8 h.hlim
  have b6 : t6 ∉ [gr] := by simpa using h.n2
  have b8 : t8 ∉ [gr] := by simpa using h.n4
  refine ⟨(hk.cell t6 0 a6 b6).trans h.c6, (hk.frozen t6 0 a6 b6).trans h.f6, (hk.cell t8 0 a8 b8).trans h.c8, (hk.frozen t8 0 a8 b8).trans h.f8, fun i hi => ?_, fun i => by simpa using h.fr i, h.l6, h.l8, h.lr, Nat.le_trans h.hlim hk.size,
    own_kept2 h.own hk (fun g hg hm => by obtain rfl := List.mem_singleton.1 hm; exact h.low h.lr hg), h.wt.kept hk (fun x hx => ?_), h.tw, h.n1, h.n2, h.n3, h.n4, h.n5, h.n6⟩
  · by_cases e : i = k
    · subst e
      rw [set_same (h.cr i hi)]
      simp
    · rw [set_other (.inr (fun h => e h.symm)), h.cr i hi]
      simp [e]
  · obtain rfl := List.mem_singleton.1 hx
    exact ⟨h.n6, fun i hi => h.loww hi h.lr⟩
/-- A node is put on the list. -/
theorem Rm.push (h : Rm ti lim w t6 t8 gr gw n v tv s) {v' : Value} {l : List Nat} (hk : Kept tv.ownBlock.toList w w1) (hv : w1.ownsRow lim ti 1 v' l.length ((ofNats l).map (Value.int .i64)))
    (hg : ∀ g, v'.ownBlock = some g → tv.ownBlock = some g ∨ w.heap.size ≤ g) : Rm ti lim (w1.setCell ⟨t8, 0, none⟩ v') t6 t8 gr gw n v v' ⟨s.r, s.w, l⟩ := by
  have b : ∀ x, x < lim → x ∉ tv.ownBlock.toList := fun x hx hm => h.low hx (by simpa using hm)
  have h1 : Rm ti lim w1 t6 t8 gr gw n v v' ⟨s.r, s.w, l⟩ ∨ True := .inr trivial
  clear h1
  have a6 : t6 < w.heap.size := Nat.lt_of_lt_of_le h.l6 h.hlim
  have a8 : t8 < w.heap.size := Nat.lt_of_lt_of_le h.l8 h.hlim
  have ar : gr < w.heap.size := Nat.lt_of_lt_of_le h.lr h.hlim
  have hk2 : Kept [t8] w1 (w1.setCell ⟨t8, 0, none⟩ v') := (Kept.refl [t8] w1).set t8 0 _ (.inl (by simp))
  have o6 : t6 ∉ [t8] := by simpa using h.n1
  have or : gr ∉ [t8] := by simpa using h.n4.symm
  have wt1 : Rw1 ti lim w1 gw n v (fun i => ofNats (s.w i)) := h.wt.kept hk (fun x hx => ⟨fun e => b gw h.lw (e ▸ hx), fun i hi e => h.tw i x hi e (by simpa using hx)⟩)
  have hsz := hk.size
  have ge' : ∀ g, v'.ownBlock = some g → lim ≤ g := fun g hg => own_ge hv hg
  refine ⟨(hk2.cell t6 0 (by omega) o6).trans ((hk.cell t6 0 a6 (b _ h.l6)).trans h.c6), (hk2.frozen t6 0 (by omega) o6).trans ((hk.frozen t6 0 a6 (b _ h.l6)).trans h.f6), set_same ((hk.cell t8 0 a8 (b _ h.l8)).trans h.c8), ?_,
    fun i hi => (hk2.cell gr i (by omega) or).trans ((hk.cell gr i ar (b _ h.lr)).trans (h.cr i hi)), fun i => (hk2.frozen gr i (by omega) or).trans ((hk.frozen gr i ar (b _ h.lr)).trans (h.fr i)), h.l6, h.l8, h.lr, Nat.le_trans h.hlim (Nat.le_trans hk.size hk2.size),
    own_kept2 hv hk2 (fun g hg' hm => ?_), wt1.kept hk2 (fun x hx => ?_), fun i x hi hx hx' => ?_, h.n1, h.n2, h.n3, h.n4, h.n5, h.n6⟩
  · have := (hk.frozen t8 0 a8 (b _ h.l8)).trans h.f8
    simpa using this
  · obtain rfl := List.mem_singleton.1 hm
    have := ge' g hg'; have := h.l8; omega
  · obtain rfl := List.mem_singleton.1 hx
    exact ⟨h.n5, fun i hi => h.loww hi h.l8⟩
  · rcases hg x hx' with h2 | h2
    · exact h.tw i x hi hx h2
    · have := own_lt2 (h.wt.own i hi) hx; omega
/-- A call's list gets one more node. -/
theorem Rm.wait (h : Rm ti lim w t6 t8 gr gw n v tv s) {i : Nat} {v' : Value} {l : List Nat} (hi : i < n) (hk : Kept (v i).ownBlock.toList w w1) (hv : w1.ownsRow lim ti 1 v' l.length ((ofNats l).map (Value.int .i64)))
    (hg : ∀ g, v'.ownBlock = some g → (v i).ownBlock = some g ∨ w.heap.size ≤ g) : Rm ti lim (w1.setCell ⟨gw, i, none⟩ v') t6 t8 gr gw n (upd1 v i v') tv ⟨s.r, fun x => if x = i then l else s.w x, s.t⟩ := by
  have hk2 : Kept (gw :: (v i).ownBlock.toList) w (w1.setCell ⟨gw, i, none⟩ v') := (keptWide hk (fun x hx => List.mem_cons_of_mem _ hx)).set gw i v' (.inl (by simp))
  have b : ∀ x, x < lim → x ≠ gw → x ∉ gw :: (v i).ownBlock.toList := fun x hx hn hm => by
    rcases List.mem_cons.1 hm with h1 | h1
    · exact hn h1
    · exact h.loww hi hx (by simpa using h1)
  have a6 : t6 < w.heap.size := Nat.lt_of_lt_of_le h.l6 h.hlim
  have a8 : t8 < w.heap.size := Nat.lt_of_lt_of_le h.l8 h.hlim
  have ar : gr < w.heap.size := Nat.lt_of_lt_of_le h.lr h.hlim
  refine ⟨(hk2.cell t6 0 a6 (b _ h.l6 h.n3)).trans h.c6, (hk2.frozen t6 0 a6 (b _ h.l6 h.n3)).trans h.f6, (hk2.cell t8 0 a8 (b _ h.l8 h.n5)).trans h.c8, (hk2.frozen t8 0 a8 (b _ h.l8 h.n5)).trans h.f8,
    fun j hj => (hk2.cell gr j ar (b _ h.lr h.n6)).trans (h.cr j hj), fun j => (hk2.frozen gr j ar (b _ h.lr h.n6)).trans (h.fr j), h.l6, h.l8, h.lr, Nat.le_trans h.hlim hk2.size,
    own_kept2 h.own hk2 (fun g hg' hm => ?_), (h.wt.snoc (l' := ofNats l) hi hk (by simpa [ofNats] using hv) hg).ext (fun j => ?_), fun j x hj hx hx' => ?_, h.n1, h.n2, h.n3, h.n4, h.n5, h.n6⟩
  · rcases List.mem_cons.1 hm with h1 | h1
    · exact h.low h.lw (h1 ▸ hg')
    · exact h.tw i g hi (by simpa using h1) hg'
  · by_cases e : j = i
    · subst e; rw [upd1_at]; simp
    · rw [upd1_ne e]; simp [e]
  · by_cases e : j = i
    · subst e
      rw [upd1_at] at hx
      rcases hg x hx with h2 | h2
      · exact h.tw j x hi h2 hx'
      · have := own_lt2 h.own hx'; omega
    · rw [upd1_ne e] at hx
      exact h.tw j x hj hx hx'
end
end Rc
end Go.Df
namespace Go.Proofs.Ytffkikhknabddaa
open Go.RowKit Go.Df Go.Df.If Go.Df.Rc
attribute [local go_sem ↓] Go.wp_at_zero Go.wp_at_succ

set_option maxRecDepth 100000 in
set_option maxHeartbeats 10000000 in
theorem radd_any (lim t6 t8 gr gw N n : Nat) (v : Nat → Value) (tv : Value) (s : Rs) (w : World) (h : Rm 3 lim w t6 t8 gr gw N v tv s) (hn : n < N) (hl : s.t.length ≤ 1000000) :
    Calls Try.prog 56 #[.int .i64 n, .pointer (some ⟨t6, 0, none⟩), .pointer (some ⟨t8, 0, none⟩)] w fun e w' => e = .returned (.tuple #[]) ∧ (∃ tv', Rm 3 lim w' t6 t8 gr gw N v tv' (Rc.ad s n)) ∧ Kept (t8 :: gr :: tv.ownBlock.toList) w w' := by
  obtain ⟨i1, j1, j2, j3, j4⟩ := info_parts int_info
  have H := Lib.hid h
  have c6 := h.c6
  have f6 := h.f6
  have c8 := h.c8
  have f8 := h.f8
  have cr := h.cr n hn
  have fr := h.fr n
  have a6 : t6 < w.heap.size := Nat.lt_of_lt_of_le h.l6 h.hlim
  have a8 : t8 < w.heap.size := Nat.lt_of_lt_of_le h.l8 h.hlim
  have ar : gr < w.heap.size := Nat.lt_of_lt_of_le h.lr h.hlim
  have hn1 : (n : Int) < (N : Int) := by omega
  obtain ⟨A9, m9, c9, htv, hm9⟩ : ∃ A9 m9 c9, tv = .slice A9 m9 c9 ∧ m9 = s.t.length := by
    rcases h.own.2 with ⟨h1, h2⟩ | ⟨g', cap, cur, h1, _⟩
    · exact ⟨_, _, _, h1, h2.symm⟩
    · exact ⟨_, _, _, h1, rfl⟩
  subst htv
  have HM9 := Lib.hid hm9
  have hm9b : m9 ≤ 1000000 := by omega
  clear h hm9 hl
  go_enter Try.func56, Try.ntmps56
  cases hr : s.r n with
  | true =>
    rw [hr] at cr
    go_wp2_with fail
    go_end0
    exact ⟨rfl, ⟨_, by rw [show Rc.ad s n = s by unfold Rc.ad; rw [if_pos hr]]; exact H.out⟩, Kept.refl _ _⟩
  | false =>
    rw [hr] at cr
    go_upto_region 2 with fail
    -- MARK1
    refine wp_named (fun X => Rm 3 lim X t6 t8 gr gw N v (.slice A9 m9 c9) ⟨fun x => s.r x || x == n, s.w, s.t⟩ ∧ Kept [gr] w X) ⟨H.out.mark, (Kept.refl [gr] w).set gr n _ (.inl (by simp))⟩ ?_
    rintro X ⟨hX, hkX⟩
    have HX := Lib.hid hX
    have d8 := hX.c8
    have g8 := hX.f8
    have b8 : t8 < X.heap.size := Nat.lt_of_lt_of_le hX.l8 hX.hlim
    have hlX := hX.hlim
    have OWN : Hid (X.ownsRow lim 3 1 (.slice A9 m9 c9) m9 ((ofNats s.t).map (Value.int .i64))) := Lib.hid (by have h9 := hX.own; dsimp only at h9; rw [← HM9.out] at h9; exact h9)
    have x8 : t8 ∉ (Value.slice A9 m9 c9).ownBlock.toList := fun hm => hX.low hX.l8 (by simpa using hm)
    have HAB : Hid ((ofNats s.t).map (Value.int .i64) ++ [.int .i64 (n : Int)] = (ofNats (s.t ++ [n])).map (Value.int .i64)) := Lib.hid (by simp [ofNats])
    clear c6 f6 c8 f8 cr fr hX a6 a8 ar
    go_wp2_with (first
      | (at_builtin; refine wpList_append_rd _ rfl _ _ 26 rfl lim 3 i1 (.int .i64 0) 1 8 Try.underlying26 j1 j2 j3 j4 rfl (by decide) (.slice A9 m9 c9) m9 _ rfl (own_kept2 (X := []) OWN.out ((Kept.refl [] X).alloc _) (by simp)) (some ⟨X.heap.size, 0, none⟩) 1 1 [.int .i64 (n : Int)] rfl (Rd.new1 _ _ _ _ rfl) (fun h => by cases h) (by intro u hu; simp at hu; subst hu; rfl) (m9 + 1) rfl _ HAB.out (by unfold maxLen; omega) (by omega) (by simp; omega) ?_; intro A8 c8 w8 hown8 hk8 hat8; have hkA : Kept (Value.slice A9 m9 c9).ownBlock.toList X w8 := ((Kept.refl _ X).alloc _).next hk8 (fun y hy => Or.inl hy); have e8 := (hkA.cell _ 0 b8 x8).trans d8; have k8 := (hkA.frozen _ 0 b8 x8).trans g8; have HO8 := Lib.hid hown8; have HKA := Lib.hid hkA; have HAT := Lib.hid hat8; clear hown8 hk8 hat8 hkA)
      | go_in)
    -- MARK2
    go_end0
    refine ⟨rfl, ⟨.slice A8 (m9 + 1) c8, ?_⟩, ?_⟩
    · rw [show Rc.ad s n = ⟨fun x => s.r x || x == n, s.w, s.t ++ [n]⟩ by unfold Rc.ad; rw [if_neg (by simp [hr])]]
      refine HX.out.push (l := s.t ++ [n]) HKA.out ?_ (fun g hg => ?_)
      · have h9 := HO8.out
        rw [HM9.out] at h9 ⊢
        simpa using h9
      · rcases HAT.out g hg with h1 | h1
        · exact .inl h1
        · right; rw [h1]; simp
    · exact ((keptWide hkX (by simp)).next (keptWide HKA.out (fun x hx => by simp at hx ⊢; simp [hx])) (fun y hy => .inl hy)).set t8 0 _ (.inl (by simp))
end Go.Proofs.Ytffkikhknabddaa
