/- Push and Pop, of the program and of the reference, in one form. -/
import Derived.Test.YthliphpcfnbmnaaRv
namespace Go.Proofs.Ythliphpcfnbmnaa
open Go.RowKit Go.Df
attribute [local go_sem ↓] Go.wp_at_zero Go.wp_at_succ
/-- The rank and the items that Push returns. -/
def Wl.pR (r l : List Int) (x : Int) : List Int := if Wl.perr r l x = 0 then r else []
def Wl.pL (r l : List Int) (x : Int) : List Int := if Wl.perr r l x = 0 then (if x ∈ l then l else Wl.ins l (Wl.place r l x) x) else []
/-- Is there something to pop? What does Pop return? -/
def Wl.okP (r l : List Int) : Bool := decide (Wl.chk r l = 0) && decide (0 < l.length)
def Wl.oX (r l : List Int) : Int := if Wl.okP r l = true then gi l 0 else 0
def Wl.oR (r l : List Int) : List Int := if Wl.okP r l = true then r else []
def Wl.oL (r l : List Int) : List Int := if Wl.okP r l = true then l.drop 1 else []

theorem push_u {A1 A2 : Option Addr} {n1 c1 n2 c2 : Nat} {r l : List Int} {w : World} (hr : SIn w A1 n1 c1 r) (hl : SIn w A2 n2 c2 l) (x : Int) :
    Calls Try.prog 13 #[.agg #[.slice A1 n1 c1, .slice A2 n2 c2], .int .i64 x] w (GetQE w (Wl.pR r l x) (Wl.pL r l x) (Wl.perr r l x)) := by
  by_cases h : Wl.perr r l x = 0
  · rw [Wl.pR, if_pos h, Wl.pL, if_pos h, h]
    by_cases hm : x ∈ l
    · rw [if_pos hm]; exact push_there _ _ _ _ _ _ r l x w hr.1 hl.1 hr.2.2.2 hl.2.2.2 h hm
    · rw [if_neg hm]; exact push_new _ _ _ _ _ _ r l x w hr.1 hl.1 hr.2.2.2 hl.2.2.2 h hm
  · rw [Wl.pR, if_neg h, Wl.pL, if_neg h]
    exact push_bad _ _ _ _ _ _ r l x w hr.1 hl.1 (Nat.le_trans hl.2.1 hl.2.2.1) h
theorem rpush_u {A1 A2 : Option Addr} {n1 c1 n2 c2 : Nat} {r l : List Int} {w : World} (hr : SIn w A1 n1 c1 r) (hl : SIn w A2 n2 c2 l) (x : Int) :
    Calls Try.prog 19 #[.agg #[.slice A1 n1 c1, .slice A2 n2 c2], .int .i64 x] w (GetQE0 w (Wl.pR r l x) (Wl.pL r l x) (Wl.perr r l x)) := by
  by_cases h : Wl.perr r l x = 0
  · rw [Wl.pR, if_pos h, Wl.pL, if_pos h, h]
    by_cases hm : x ∈ l
    · rw [if_pos hm]; exact rpush_there _ _ _ _ _ _ r l x w hr hl h hm
    · rw [if_neg hm]; exact rpush_new _ _ _ _ _ _ r l x w hr hl h hm
  · rw [Wl.pR, if_neg h, Wl.pL, if_neg h]
    exact rpush_bad _ _ _ _ _ _ r l x w hr.1 hl.1 hl.2.1 (Nat.le_trans hl.2.1 hl.2.2.1) h
theorem pop_u {A1 A2 : Option Addr} {n1 c1 n2 c2 : Nat} {r l : List Int} {w : World} (hr : SIn w A1 n1 c1 r) (hl : SIn w A2 n2 c2 l) :
    Calls Try.prog 10 #[.agg #[.slice A1 n1 c1, .slice A2 n2 c2]] w (GetPop w (Wl.oX r l) (Wl.oR r l) (Wl.oL r l) (Wl.okP r l)) := by
  have hn := hl.1.1
  by_cases h : Wl.chk r l = 0 ∧ 0 < l.length
  · have hk : Wl.okP r l = true := by simp [Wl.okP, h.1, h.2]
    rw [Wl.oX, if_pos hk, Wl.oR, if_pos hk, Wl.oL, if_pos hk, hk]
    by_cases h2 : 2 ≤ n2
    · exact pop_two _ _ _ _ _ _ r l w hr.1 hl.1 h.1 h2 hl.2.1 hr.2.2.2
    · obtain rfl : n2 = 1 := by omega
      exact pop_one _ _ _ _ _ r l w hr.1 hl.1 h.1 hl.2.1 hr.2.2.2
  · have hk : Wl.okP r l = false := by
      unfold Wl.okP
      by_cases h1 : Wl.chk r l = 0
      · have h2 : ¬ 0 < l.length := fun h2 => h ⟨h1, h2⟩
        simp at h2
        simp [h2]
      · simp [h1]
    have hf : ¬ Wl.okP r l = true := by rw [hk]; simp
    rw [Wl.oX, if_neg hf, Wl.oR, if_neg hf, Wl.oL, if_neg hf, hk]
    refine pop_no _ _ _ _ _ _ r l w hr.1 hl.1 ?_
    by_cases h1 : Wl.chk r l = 0
    · exact .inr (by rcases Nat.eq_zero_or_pos n2 with h2 | h2; exact h2; exact absurd ⟨h1, by omega⟩ h)
    · exact .inl h1
theorem rpop_u {A1 A2 : Option Addr} {n1 c1 n2 c2 : Nat} {r l : List Int} {w : World} (hr : SIn w A1 n1 c1 r) (hl : SIn w A2 n2 c2 l) :
    Calls Try.prog 21 #[.agg #[.slice A1 n1 c1, .slice A2 n2 c2]] w (GetPop0 w (Wl.oX r l) (Wl.oR r l) (Wl.oL r l) (Wl.okP r l)) := by
  have hn := hl.1.1
  by_cases h : Wl.chk r l = 0 ∧ 0 < l.length
  · have hk : Wl.okP r l = true := by simp [Wl.okP, h.1, h.2]
    rw [Wl.oX, if_pos hk, Wl.oR, if_pos hk, Wl.oL, if_pos hk, hk]
    exact rpop_yes _ _ _ _ _ _ r l w hr hl h.1 (by omega)
  · have hk : Wl.okP r l = false := by
      unfold Wl.okP
      by_cases h1 : Wl.chk r l = 0
      · have h2 : ¬ 0 < l.length := fun h2 => h ⟨h1, h2⟩
        simp at h2
        simp [h2]
      · simp [h1]
    have hf : ¬ Wl.okP r l = true := by rw [hk]; simp
    rw [Wl.oX, if_neg hf, Wl.oR, if_neg hf, Wl.oL, if_neg hf, hk]
    refine rpop_no _ _ _ _ _ _ r l w hr.1 hl.1 hl.2.1 ?_
    by_cases h1 : Wl.chk r l = 0
    · exact .inr (by rcases Nat.eq_zero_or_pos n2 with h2 | h2; exact h2; exact absurd ⟨h1, by omega⟩ h)
    · exact .inl h1
/-- Two numbers in a block that the call has made. -/
theorem two_ints (w : World) (x y : Int) (t : TypeId) : SIn (w.alloc (.cells #[.int .i64 x, .int .i64 y] t)) (some ⟨w.heap.size, 0, none⟩) 2 2 [x, y] := by
  refine ⟨⟨rfl, fun _ => ⟨_, _, rfl, by simp, fun i hi => ?_⟩⟩, Nat.le_refl _, by omega, fun h => by cases h⟩
  rw [World.cell?_alloc_new, Nat.zero_add]
  match i, hi with
  | 0, _ => rfl
  | 1, _ => rfl

/-- What is new lies apart from what was there. -/
theorem SIn.apart {w w1 w2 : World} {A : Option Addr} {n c g : Nat} {xs : List Int} (h : SIn w1 A n c xs) (hf : Fr w w1 A) (hg : g < w.heap.size) (hk : Kept [g] w1 w2) : SIn w2 A n c xs :=
  h.keptX hk (fun _ a ha => by have := hf a ha; simp; omega)
theorem SIn.alloc {w : World} {A : Option Addr} {n c : Nat} {xs : List Int} (h : SIn w A n c xs) (o : Obj) : SIn (w.alloc o) A n c xs := h.kept ((Kept.refl _ _).alloc o)
theorem awake_p1 : Wl.perr [5, 1] [] 0 = 0 ∧ Wl.pR [5, 1] [] 0 = [5, 1] ∧ Wl.pL [5, 1] [] 0 = [0] := by decide
theorem awake_p2 : Wl.perr [5, 1] [0] 1 = 0 ∧ Wl.pR [5, 1] [0] 1 = [5, 1] ∧ Wl.pL [5, 1] [0] 1 = [1, 0] := by decide
theorem awake_p3 : Wl.okP [5, 1] [1, 0] = true ∧ Wl.oX [5, 1] [1, 0] = 1 ∧ Wl.size [5, 1] [1, 0] = 2 := by decide

set_option maxHeartbeats 1000000 in
theorem awake_any (w : World) : Calls Try.prog 8 #[] w fun e w' => e = .returned (.bool true) ∧ Below w.heap.size w w' := by
  go_enter Try.func8, Try.ntmps8
  go_wp2_with fail
  refine (new_ok _ _ _ [5, 1] _ (two_ints w 5 1 3).1 (by omega) (fun h => by cases h)).mono ?_
  rintro e w1 ⟨A1, n1, c1, A2, n2, c2, rfl, hr1, hl1, hb1, -, -⟩
  have hk1 : Kept [] w w1 := Kept.call (by (repeat' first | (with_reducible assumption) | (with_reducible exact Kept.refl _ _) | (with_reducible refine Kept.alloc ?_ _) | (with_reducible refine Kept.call ?_ (by assumption)) | (with_reducible refine Kept.set ?_ _ _ _ (Or.inr ?_)) | (with_reducible refine Kept.drew ?_) | (simp; done) | omega | (simp; omega))) hb1
  have H1 := Lib.hid hr1
  have H2 := Lib.hid hl1
  clear hr1 hl1
  go_upto_region 2 with fail
  refine wp_named (fun V => ∃ g, w1.heap.size = g ∧ Blk V g [.slice A1 n1 c1, .slice A2 n2 c2] ∧ Kept [] w1 V) ⟨_, rfl, Blk.new _ _ _ _ rfl, (Kept.refl _ _).alloc _⟩ ?_
  rintro V ⟨g, eg, Bg, hkV⟩
  rw [eg]
  have G0 : w.heap.size ≤ g := by have := hk1.size; omega
  have ⟨Lg, Cg, Fg⟩ := Bg
  have hwV : Below w.heap.size w V := hkV.below (hk1.below (Below.refl _ _) (Nat.le_refl _) (by simp)) hk1.size (by simp)
  clear eg
  go_wp2_with fail
  refine (push_u (H1.out.kept hkV) (H2.out.kept hkV) 0).mono ?_
  rw [awake_p1.1, awake_p1.2.1, awake_p1.2.2]
  rintro e w2 ⟨A3, n3, c3, A4, n4, c4, rfl, hr2, hl2, hb2, hf3, hf4⟩
  have H3 := Lib.hid hr2
  have H4 := Lib.hid hl2
  have HF3 := Lib.hid hf3
  have HF4 := Lib.hid hf4
  have Bg2 := Bg.later hb2
  have ⟨Lg2, Cg2, Fg2⟩ := Bg2
  have hw2 : Below w.heap.size w w2 := below_step hwV.size hwV hb2
  clear hr2 hl2 hf3 hf4 Cg Fg hk1 hkV
  go_upto_region 3 with fail
  refine wp_named (fun U => Blk U g [.slice A3 n3 c3, .slice A4 n4 c4] ∧ Kept [g] w2 U) ⟨Blk.set2 (Bg2.n rfl), ((Kept.refl [g] w2).set g 0 _ (.inl (by simp))).set g 1 _ (.inl (by simp))⟩ ?_
  rintro U ⟨BU, hkU⟩
  have ⟨LU, CU, FU⟩ := BU
  have H5 := Lib.hid (H3.out.apart HF3.out Lg hkU)
  have H6 := Lib.hid (H4.out.apart HF4.out Lg hkU)
  have hwU : Below w.heap.size w U := hkU.below hw2 hw2.size (by simpa using G0)
  clear Cg2 Fg2 hkU
  go_wp2_with fail
  refine (push_u H5.out H6.out 1).mono ?_
  rw [awake_p2.1, awake_p2.2.1, awake_p2.2.2]
  rintro e w3 ⟨A5, n5, c5, A6, n6, c6, rfl, hr3, hl3, hb3, hf5, hf6⟩
  have H7 := Lib.hid hr3
  have H8 := Lib.hid hl3
  have HF5 := Lib.hid hf5
  have HF6 := Lib.hid hf6
  have Bg3 := BU.later hb3
  have ⟨Lg3, Cg3, Fg3⟩ := Bg3
  have hw3 : Below w.heap.size w w3 := below_step hwU.size hwU hb3
  clear hr3 hl3 hf5 hf6 CU FU
  go_upto_region 4 with fail
  refine wp_named (fun Z => Blk Z g [.slice A5 n5 c5, .slice A6 n6 c6] ∧ Kept [g] w3 Z) ⟨Blk.set2 (Bg3.n rfl), ((Kept.refl [g] w3).set g 0 _ (.inl (by simp))).set g 1 _ (.inl (by simp))⟩ ?_
  rintro Z ⟨BZ, hkZ⟩
  have ⟨LZ, CZ, FZ⟩ := BZ
  have H9 := Lib.hid (H7.out.apart HF5.out LU hkZ)
  have H10 := Lib.hid (H8.out.apart HF6.out LU hkZ)
  have hwZ : Below w.heap.size w Z := hkZ.below hw3 hw3.size (by simpa using G0)
  clear Cg3 Fg3 hkZ
  go_wp2_with fail
  refine (pop_u H9.out H10.out).mono ?_
  rw [awake_p3.1, awake_p3.2.1]
  rintro e w4 ⟨A7, n7, c7, A8, n8, c8, rfl, hr4, hl4, hb4, hf7, hf8⟩
  have ⟨L4, C4, F4⟩ := BZ.later hb4
  have H11 := Lib.hid ((H9.out.later hb4).alloc (.cells #[.slice A7 n7 c7, .slice A8 n8 c8] 25))
  have H12 := Lib.hid ((H10.out.later hb4).alloc (.cells #[.slice A7 n7 c7, .slice A8 n8 c8] 25))
  have hw4 : Below w.heap.size w w4 := below_step hwZ.size hwZ hb4
  clear hr4 hl4 hf7 hf8 CZ FZ
  go_wp2_with fail
  refine (len_any _ _ _ _ _ _ _ _ _ H11.out.1 H12.out.1).mono ?_
  rw [awake_p3.2.2]
  rintro e w5 ⟨rfl, hb5⟩
  have hw5 : Below w.heap.size w w5 := below_step (by have := hw4.size; simp; omega) (hw4.alloc hw4.size _) hb5
  go_wp2_with fail
  go_ret
  exact ⟨rfl, hw5⟩
end Go.Proofs.Ythliphpcfnbmnaa
