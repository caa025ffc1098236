/- The contracts of the references' Out and follow. (Printed by genYd.py out of XWd, XWe.) -/
import Derived.Test.YtffkikhknabddaaWa
namespace Go.Df.Sp
/-- The edges from x among the first j. -/
def outS (es : List Ed) (x : Int) : Nat → List Int
  | 0 => []
  | j + 1 => if (ge es j).a = x then outS es x j ++ [(j : Int)] else outS es x j
theorem outS_len (es : List Ed) (x : Int) : ∀ j, (outS es x j).length ≤ j
  | 0 => Nat.le_refl _
  | j + 1 => by
    unfold outS
    have := outS_len es x j
    split
    · simp; omega
    · omega
/-- The edges of l, among the first j, that a path may take. -/
def flt (es : List Ed) (a : Int) (cs l : List Int) : Nat → List Int
  | 0 => []
  | j + 1 => if (stepS es a cs (gi l j)).1 = 0 then flt es a cs l j ++ [gi l j] else flt es a cs l j
theorem flt_len (es : List Ed) (a : Int) (cs l : List Int) : ∀ j, (flt es a cs l j).length ≤ j
  | 0 => Nat.le_refl _
  | j + 1 => by
    unfold flt
    have := flt_len es a cs l j
    split
    · simp; omega
    · omega
def nextS (es : List Ed) (a : Int) (cs : List Int) : List Int := flt es a cs (outS es a es.length) (outS es a es.length).length
end Go.Df.Sp
namespace Go.Proofs.Ytffkikhknabddaa
open Go.RowKit Go.Df
attribute [local go_sem ↓] Go.wp_at_zero Go.wp_at_succ

set_option maxRecDepth 100000 in
set_option maxHeartbeats 1000000 in
theorem rout_any (A1 A2 : Option Addr) (n1 c1 n2 c2 : Nat) (mn x : Int) (es : List Sp.Ed) (w : World) (he : Eds w A2 n2 es) (hs : n2 ≤ 1000000) :
    Calls Try.prog 153 #[.agg #[.slice A1 n1 c1, .slice A2 n2 c2, .int .i64 mn], .int .i64 x] w fun e w' => ∃ A n c, e = .returned (.slice A n c) ∧ SIn w' A n c (Sp.outS es x n2) ∧ n ≤ n2 ∧ Below w.heap.size w w' := by
  obtain ⟨i0, hi, hz0, hz1, hz2⟩ := info_parts int_info
  have HE := Lib.hid he
  clear he
  go_enter Try.func153, Try.ntmps153
  go_upto_region 1 with fail
  refine wp_named (fun W => ∃ b0, w.heap.size = b0 ∧ Blk W b0 [.slice A1 n1 c1, .slice A2 n2 c2, .int .i64 mn] ∧ Below w.heap.size w W) ⟨_, rfl, ?_, ?_⟩ ?_
  · exact Blk.new _ _ _ _ (by first | rfl | simp)
  · go_grown
  rintro W ⟨b0, e0, B0, hB⟩
  rw [e0]
  have G0 : w.heap.size ≤ b0 := by omega
  clear e0
  have ⟨L0, C0, F0⟩ := B0
  go_wp2_with fail
  go_loopw [5, 6] (fun s5 s6 wr => ∃ (j N : Nat) (A : Option Addr) (c : Nat), j ≤ n2 ∧ s5 = .slice A N c ∧ s6 = .int .i64 j ∧ Kept [] W wr ∧ Hid (wr.ownsRow W.heap.size 3 1 (.slice A N c) N ((Sp.outS es x j).map (Value.int .i64)))) (fun _ i _ => n2 - (intOf i).toNat)
  case atStart => exact ⟨0, 0, none, 0, Nat.zero_le _, rfl, rfl, Kept.refl _ _, Lib.hid (World.ownsRow_nil _ _ _ _)⟩
  case round =>
    obtain ⟨j, N, A, c, hj, rfl, rfl, hkr, own⟩ := hrel
    have HN : Hid ((Sp.outS es x j).length = N) := by show _ = _; have := own.out.1; simpa using this
    have hNj : N ≤ j := by have := HN.out; have := Sp.outS_len es x j; omega
    have hBr := hkr.below hB hB.size (by simp)
    have ⟨LR, CR, FR⟩ := hkr.blk (by simp) B0
    have hsz := hkr.size
    clear C0 F0
    by_cases hlt : j < n2
    · obtain ⟨b, o, rfl, hl, hc⟩ := (HE.out.later hBr).2 (by omega)
      obtain ⟨h1, h2, h3, h4⟩ := hc j hlt
      clear hc
      obtain ⟨ea, eb, ek, ec, en⟩ : ∃ ea eb ek ec, ge es j = ⟨ea, eb, ek, ec⟩ := ⟨_, _, _, _, rfl⟩
      rw [en] at h1 h2 h3 h4
      have HEe := Lib.hid en
      clear en
      clear h2 h3 h4
      by_cases e1 : ea = x
      · have e1' : (ea == x) = true := by simpa using e1
        have HAP : Hid ((Sp.outS es x j).map (Value.int .i64) ++ [.int .i64 (j : Int)] = (Sp.outS es x (j + 1)).map (Value.int .i64)) := by
          show _ = _
          rw [Sp.outS, HEe.out, if_pos e1, List.map_append]
          rfl
        clear e1
        go_wp2_with (first | (at_builtin; refine wpList_append_rd _ rfl _ _ 26 rfl W.heap.size 3 i0 (.int .i64 0) 1 8 Try.underlying26 hi hz0 hz1 hz2 rfl (by decide) (.slice A N c) N ((Sp.outS es x j).map (Value.int .i64)) rfl (own_alloc own.out _) (some ⟨wr.heap.size, 0, none⟩) 1 1 [.int .i64 (j : Int)] rfl (Rd.new1 _ _ _ _ rfl) (fun h => by cases h) (by intro u hu; simp at hu; subst hu; rfl) (N + 1) rfl ((Sp.outS es x (j + 1)).map (Value.int .i64)) HAP.out (by unfold maxLen; omega) (by omega) (by simp; omega) ?_; intro A9 c9 w4 hown4 hk4 hat4; have HX : Hid (∀ y ∈ (Value.slice A N c).ownBlock.toList, W.heap.size ≤ y) := (fun y hy => own_ge own.out (by simpa using hy)); have hk5 := Lib.hid ((hkr.alloc (.cells #[.int .i64 (j : Int)] 3)).next hk4 (fun y hy => Or.inr (HX.out y hy))); have HO4 := Lib.hid hown4; clear hown4 hk4 hat4))
        exact ⟨⟨j + 1, N + 1, A9, c9, by omega, rfl, by go_num, hk5.out, HO4⟩, by simp [intOf]; omega⟩
      · have e1' : (ea == x) = false := by simpa using e1
        have HAP : Hid (Sp.outS es x (j + 1) = Sp.outS es x j) := by
          show _ = _
          rw [Sp.outS, HEe.out, if_neg e1]
        clear e1
        go_wp2_with fail
        exact ⟨⟨j + 1, N, A, c, by omega, rfl, by go_num, hkr, Lib.hid (by rw [HAP.out]; exact own.out)⟩, by simp [intOf]; omega⟩
    · obtain rfl : j = n2 := by omega
      obtain ⟨A', c', hv', hin, -⟩ := SIn.of_own own.out
      injection hv' with e1 e2 e3
      subst e1
      subst e3
      have HIN := Lib.hid hin
      clear hin hlt
      go_wp2_with fail
      go_ret
      exact ⟨A, N, c, rfl, HIN.out, hNj, hBr⟩
set_option maxRecDepth 100000 in
set_option maxHeartbeats 2000000 in
theorem rfollow_any (A1 A2 B : Option Addr) (n1 c1 n2 c2 n d : Nat) (mn a : Int) (es : List Sp.Ed) (cs : List Int) (w : World) (he : Eds w A2 n2 es) (hs : n2 ≤ 1000000) (hp : SIn w B n d cs.reverse) (hn : n ≤ 1000000) :
    Calls Try.prog 127 #[.agg #[.slice A1 n1 c1, .slice A2 n2 c2, .int .i64 mn], .agg #[.int .i64 a, .slice B n d]] w fun e w' => ∃ A m c, e = .returned (.slice A m c) ∧ SIn w' A m c (Sp.nextS es a cs) ∧ m ≤ 1000000 ∧ (∀ y, A = some y → w.heap.size ≤ y.block ∧ y.block < w'.heap.size) ∧ Below w.heap.size w w' := by
  obtain ⟨i0, hi, hz0, hz1, hz2⟩ := info_parts int_info
  have HE := Lib.hid he
  have HL := Lib.hid he.1
  have HP := Lib.hid hp
  clear he hp
  go_enter Try.func127, Try.ntmps127
  go_upto_region 1 with fail
  refine wp_named (fun W => ∃ b0 b1, w.heap.size = b0 ∧ w.heap.size + 1 = b1 ∧ Blk W b0 [.slice A1 n1 c1, .slice A2 n2 c2, .int .i64 mn] ∧ Blk W b1 [.int .i64 a, .slice B n d] ∧ Below w.heap.size w W) ⟨_, _, rfl, rfl, ?_, ?_, ?_⟩ ?_
  · exact (Blk.new _ _ _ _ (by first | rfl | simp)).alloc _
  · exact Blk.new _ _ _ _ (by first | rfl | simp)
  · go_grown
  rintro W ⟨b0, b1, e0, e1, B0, B1, hB⟩
  rw [e1, e0]
  have G0 : w.heap.size ≤ b0 := by omega
  have n01 : b0 ≠ b1 := by omega
  have G1 : w.heap.size ≤ b1 := by omega
  have n10 : b1 ≠ b0 := by omega
  clear e0 e1
  have ⟨L0, C0, F0⟩ := B0
  have ⟨L1, C1, F1⟩ := B1
  go_wp2_with fail
  refine (rout_any _ _ _ _ _ _ _ a es _ (HE.out.later hB) hs).mono ?_
  rintro e V ⟨B2, q, d2, rfl, si, hq, hb1⟩
  have hkV : Kept [] W V := (Kept.refl _ _).call hb1
  have hBV := hkV.below hB hB.size (by simp)
  obtain ⟨l, hl⟩ : ∃ l, Sp.outS es a n2 = l := ⟨_, rfl⟩
  rw [hl] at si
  have HLl : Hid (l.length = q) := si.1.1
  have HNX : Hid (Sp.nextS es a cs = Sp.flt es a cs l q) := by
    show _ = _
    unfold Sp.nextS
    rw [HL.out, hl, HLl.out]
  have SI := Lib.hid si
  clear C0 F0 C1 F1 si hl
  go_wp2_with fail
  go_loopw [5, 7] (fun s5 s7 wr => ∃ (j N : Nat) (A : Option Addr) (c : Nat), j ≤ q ∧ s5 = .slice A N c ∧ s7 = .int .i64 j ∧ Kept [] V wr ∧ Hid (wr.ownsRow V.heap.size 3 1 (.slice A N c) N ((Sp.flt es a cs l j).map (Value.int .i64)))) (fun _ i _ => q - (intOf i).toNat)
  case atStart => exact ⟨0, 0, none, 0, Nat.zero_le _, rfl, rfl, Kept.refl _ _, Lib.hid (World.ownsRow_nil _ _ _ _)⟩
  case round =>
    obtain ⟨j, N, A, c, hj, rfl, rfl, hkr, own⟩ := hrel
    have HN : Hid ((Sp.flt es a cs l j).length = N) := by show _ = _; have := own.out.1; simpa using this
    have hNj : N ≤ j := by have := HN.out; have := Sp.flt_len es a cs l j; omega
    have hBr := hkr.below hBV hBV.size (by simp)
    have hkWr : Kept [] W wr := keptTrans hkV hkr
    have BR0 := hkWr.blk (by simp) B0
    have ⟨LR0, CR0, FR0⟩ := BR0
    have BR1 := hkWr.blk (by simp) B1
    have ⟨LR1, CR1, FR1⟩ := BR1
    have hsz := hkr.size
    by_cases hlt : j < q
    · obtain ⟨pb, po, rfl, hpl, hpc⟩ := (SI.out.1.kept hkr).2 (by omega)
      have pc := hpc j hlt
      clear hpc
      obtain ⟨k, hk⟩ : ∃ k, gi l j = k := ⟨_, rfl⟩
      rw [hk] at pc
      have HK := Lib.hid hk
      clear hk
      obtain ⟨⟨er, a', cs'⟩, hst⟩ : ∃ x, Sp.stepS es a cs k = x := ⟨_, rfl⟩
      have HST := Lib.hid hst
      have HEr := Lib.hid (HE.out.later hBr)
      have SIr := Lib.hid (HP.out.later hBr)
      have x3 : (j : Int) < (q : Int) := by omega
      clear hst
      go_upto_region 6 with fail
      go_cut [9] (fun s wx => s = .int .i64 er ∧ Kept [] wr wx)
      case first =>
        go_region_held3 (fun w' => SX0 wr w') (repeat' first | (with_reducible assumption) | (with_reducible exact SX0.init _) | (with_reducible exact SX0.refl _) | (with_reducible refine SX0.alloc ?_ _) | (with_reducible refine SX0.call ?_ (by assumption)) | (with_reducible refine SX0.set ?_ _ _ _ ?_) | (with_reducible refine SX0.drew ?_) | (simp; done) | omega | (simp; omega))
          (first | (go_at_call 61; ((with_reducible refine (rstep_any _ _ B _ _ _ _ n d _ a k es cs _ (HEr.out.kept (by (repeat' first | (with_reducible assumption) | (with_reducible exact Kept.refl _ _) | (with_reducible refine Kept.alloc ?_ _) | (with_reducible refine Kept.call ?_ (by assumption)) | (with_reducible refine Kept.set ?_ _ _ _ (Or.inr ?_)) | (with_reducible refine Kept.drew ?_) | (simp; done) | omega | (simp; omega)))) hs (SIr.out.kept (by (repeat' first | (with_reducible assumption) | (with_reducible exact Kept.refl _ _) | (with_reducible refine Kept.alloc ?_ _) | (with_reducible refine Kept.call ?_ (by assumption)) | (with_reducible refine Kept.set ?_ _ _ _ (Or.inr ?_)) | (with_reducible refine Kept.drew ?_) | (simp; done) | omega | (simp; omega)))) hn).mono ?_)); rw [HST.out]; rintro e w3 ⟨A3, n3, c3, rfl, -, -, hb3⟩; obtain ⟨hc3, hf3, hg3⟩ := bcell hb3; have hz3 := hb3.size; try simp at hz3))
        all_goals
          go_wp2_with fail
          go_meet
          refine ⟨rfl, ?_⟩
          (repeat' first | (with_reducible assumption) | (with_reducible exact Kept.refl _ _) | (with_reducible refine Kept.alloc ?_ _) | (with_reducible refine Kept.call ?_ (by assumption)) | (with_reducible refine Kept.set ?_ _ _ _ (Or.inr ?_)) | (with_reducible refine Kept.drew ?_) | (simp; done) | omega | (simp; omega))
      case rest =>
        obtain ⟨rfl, hkc⟩ := hcut
        have hkVc : Kept [] V wc := keptTrans hkr hkc
        have hBc := hkVc.below hBV hBV.size (by simp)
        have ownC := Lib.hid (own_keptX own.out hkc (by simp))
        have pcC := (hkc.cell pb _ hpl (by simp)).trans pc
        have hplC := Nat.lt_of_lt_of_le hpl hkc.size
        have hszc := hkVc.size
        clear CR0 FR0 CR1 FR1 pc own
        by_cases he0 : er = 0
        · have he' : (er == 0) = true := by simpa using he0
          have HAP : Hid ((Sp.flt es a cs l j).map (Value.int .i64) ++ [.int .i64 k] = (Sp.flt es a cs l (j + 1)).map (Value.int .i64)) := by
            show _ = _
            rw [Sp.flt, HK.out, HST.out, if_pos he0, List.map_append]
            rfl
          clear he0
          go_wp2_with (first | (at_builtin; refine wpList_append_rd _ rfl _ _ 26 rfl V.heap.size 3 i0 (.int .i64 0) 1 8 Try.underlying26 hi hz0 hz1 hz2 rfl (by decide) (.slice A N c) N ((Sp.flt es a cs l j).map (Value.int .i64)) rfl (own_alloc ownC.out _) (some ⟨wc.heap.size, 0, none⟩) 1 1 [.int .i64 k] rfl (Rd.new1 _ _ _ _ rfl) (fun h => by cases h) (by intro u hu; simp at hu; subst hu; rfl) (N + 1) rfl ((Sp.flt es a cs l (j + 1)).map (Value.int .i64)) HAP.out (by unfold maxLen; omega) (by omega) (by simp; omega) ?_; intro A9 c9 w4 hown4 hk4 hat4; have HX : Hid (∀ y ∈ (Value.slice A N c).ownBlock.toList, V.heap.size ≤ y) := (fun y hy => own_ge ownC.out (by simpa using hy)); have hk5 := Lib.hid ((hkVc.alloc (.cells #[.int .i64 k] 3)).next hk4 (fun y hy => Or.inr (HX.out y hy))); have HO4 := Lib.hid hown4; clear hown4 hk4 hat4))
          exact ⟨⟨j + 1, N + 1, A9, c9, by omega, rfl, by go_num, hk5.out, HO4⟩, by simp [intOf]; omega⟩
        · have he' : (er == 0) = false := by simpa using he0
          have HAP : Hid (Sp.flt es a cs l (j + 1) = Sp.flt es a cs l j) := by
            show _ = _
            rw [Sp.flt, HK.out, HST.out, if_neg he0]
          clear he0
          go_wp2_with fail
          exact ⟨⟨j + 1, N, A, c, by omega, rfl, by go_num, hkVc, Lib.hid (by rw [HAP.out]; exact ownC.out)⟩, by simp [intOf]; omega⟩
    · obtain rfl : j = q := by omega
      obtain ⟨A', c', hv', hin, hge⟩ := SIn.of_own own.out
      injection hv' with e1 e2 e3
      subst e1
      subst e3
      have HIN := Lib.hid hin
      have HGE := Lib.hid hge
      clear hin hlt hge
      go_wp2_with fail
      go_ret
      exact ⟨A, N, c, rfl, by rw [HNX.out]; exact HIN.out, by omega, (fun y hy => ⟨by have := (HGE.out y hy).1; have := hBV.size; omega, (HGE.out y hy).2⟩), hBr⟩

end Go.Proofs.Ytffkikhknabddaa
