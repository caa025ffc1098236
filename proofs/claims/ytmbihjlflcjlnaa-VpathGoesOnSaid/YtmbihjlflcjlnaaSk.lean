/- The contracts of the program's check of an edge's fields and of matches. -/
import Derived.Test.YtmbihjlflcjlnaaSi
namespace Go.Df
open Go.RowKit Go.Maps Go.ChangeMaps
theorem wpList_wanted {P : Program} {w : World} {ops : Array Oper} {rest : List Oper} {o : Oper} {a : Act} {Q : Exit → Act → World → Prop} (hw : Region.wanted o (yielded ops a.tmps) = true)
    (h : ∀ K : Act → World → Prop, (∀ a w, wpList P ops Q rest a w → K a w) → o.wp P a w K Q) : wpList P ops Q (o :: rest) a w :=
  wpList_step fun K hK => by simp only [hw, if_true]; exact h K hK
theorem wpList_look_intg {P : Program} (w : World) {ops : Array Oper} {rest : List Oper} {o : Oper} {a : Act} {Q : Exit → Act → World → Prop}
    (hg : Region.wanted o (yielded ops a.tmps) = true) (m x : Operand) (t : TypeId) (hop : o.op = Op.lookup t m x false)
    (k e : TypeId) (K : Maps.Keyed P k) (ht : P.underlying t = some (.map k e)) (he : P.underlying e = some (.int .i64)) (hz : (zeroValue e).run P w = .ok (.int .i64 0) w) (b n : Nat) (f : Value → Lit)
    (hm : a.eval m = .map (some b)) (hown : MapV P k e (.int .i64 0) w b n f) (key : Value) (kl : Lit) (hx : a.eval x = key) (hkey : keyOf P k key = some kl) (c : Int) (hc : f key = .int .i64 c)
    (hK : wpList P ops Q rest (a.put o.dst (.int .i64 c)) w) : wpList P ops Q (o :: rest) a w := by
  refine wpList_wanted hg fun K' hK' => ?_
  have hrun := hown.look_int K ht he hz hkey hc
  unfold Oper.wp
  simp [execOp, hop, hm, hx, hrun, Result.andThen]
  exact hK' _ _ hK
theorem wpList_look_boolg {P : Program} (w : World) {ops : Array Oper} {rest : List Oper} {o : Oper} {a : Act} {Q : Exit → Act → World → Prop}
    (hg : Region.wanted o (yielded ops a.tmps) = true) (m x : Operand) (t : TypeId) (hop : o.op = Op.lookup t m x false)
    (k e : TypeId) (K : Maps.Keyed P k) (ht : P.underlying t = some (.map k e)) (he : P.underlying e = some .bool) (hz : (zeroValue e).run P w = .ok (.bool false) w) (b n : Nat) (f : Value → Lit)
    (hm : a.eval m = .map (some b)) (hown : MapV P k e (.bool false) w b n f) (key : Value) (kl : Lit) (hx : a.eval x = key) (hkey : keyOf P k key = some kl) (c : Bool) (hc : f key = .bool c)
    (hK : wpList P ops Q rest (a.put o.dst (.bool c)) w) : wpList P ops Q (o :: rest) a w := by
  refine wpList_wanted hg fun K' hK' => ?_
  have hrun := hown.look_bool K ht he hz hkey hc
  unfold Oper.wp
  simp [execOp, hop, hm, hx, hrun, Result.andThen]
  exact hK' _ _ hK
namespace Sp
def inB (x : Int) (n : Nat) : Bool := decide (0 ≤ x) && decide (x < n)
theorem inB_true {x : Int} {n : Nat} (h : inB x n = true) : 0 ≤ x ∧ x < n := by simpa [inB] using h
theorem inB_false {x : Int} {n : Nat} (h : inB x n = false) : x < 0 ∨ (n : Int) ≤ x := by
  simp [inB] at h
  omega
/-- The error of an edge's fields. -/
def fieldErr (N : Nat) (ea eb ek ec : Int) : Int :=
  if ea < 0 ∨ (N : Int) ≤ ea ∨ eb < 0 ∨ (N : Int) ≤ eb then 4
  else if ek < 1 ∨ 5 < ek then 12
  else if ((ek = 1 ∨ ek = 5) ∧ ec ≠ -1) ∨ (ek ≠ 1 ∧ ek ≠ 5 ∧ (ec < 0 ∨ (N : Int) ≤ ec)) then 4 else 0
theorem ite_split (p1 p2 p3 : Prop) [Decidable p1] [Decidable p2] [Decidable p3] (r : Int) : (if p1 then 4 else if p2 then 12 else if p3 then 4 else r) =
    if (if p1 then (4 : Int) else if p2 then 12 else if p3 then 4 else 0) ≠ 0 then (if p1 then 4 else if p2 then 12 else if p3 then 4 else 0) else r := by
  by_cases h1 : p1 <;> by_cases h2 : p2 <;> by_cases h3 : p3 <;> simp [h1, h2, h3]
theorem edge_field (ns : List Nd) (es : List Ed) (j : Nat) : edgeErr ns es j =
    if fieldErr ns.length (ge es j).a (ge es j).b (ge es j).k (ge es j).c ≠ 0 then fieldErr ns.length (ge es j).a (ge es j).b (ge es j).k (ge es j).c
    else if 0 < j ∧ lessE (ge es (j - 1)) (ge es j) = false then 13
    else if fitsB ns es (ge es j) = false then 20 else 0 := by
  unfold edgeErr fieldErr
  exact ite_split _ _ _ _
/-- Does an edge join what its kind may join, in the program's words? -/
def matchN (ek ec ea : Int) (fr td cl : Nd) (cb : Bool) : Bool :=
  if ek = 1 then decide (fr.f = td.f) && (decide (fr.k = 1) || decide (fr.k = 2)) && decide (td.k ≠ 1)
  else if ek = 5 then decide (fr.f = td.f) && decide (fr.k = 2) && decide (td.k ≠ 1)
  else if ek = 2 then decide (fr.k = 2) && decide (ec = ea) && decide (td.k = 1)
  else decide (fr.k = if ek = 4 then 4 else 3) && decide (cl.k = 2) && cb && decide (td.f = cl.f) && decide (td.k ≠ 1)
theorem match_fits {ek ec ea : Int} {fr td cl : Nd} {cb : Bool} (h1 : 1 ≤ fr.k ∧ fr.k ≤ 4) (h2 : 1 ≤ ek ∧ ek ≤ 5) : matchN ek ec ea fr td cl cb = fitsN ek ec ea fr td cl cb := by
  have h3 : ek = 1 ∨ ek = 2 ∨ ek = 3 ∨ ek = 4 ∨ ek = 5 := by omega
  have h4 : fr.k = 1 ∨ fr.k = 2 ∨ fr.k = 3 ∨ fr.k = 4 := by omega
  unfold matchN fitsN
  rcases h3 with rfl | rfl | rfl | rfl | rfl <;> rcases h4 with h | h | h | h <;> simp [h]
end Sp
end Go.Df
namespace Go.Proofs.Ytmbihjlflcjlnaa
open Go.RowKit Go.Df
attribute [local go_sem ↓] Go.wp_at_zero Go.wp_at_succ

theorem is_any (b : Nat) (A1 A2 : Option Addr) (n1 c1 n2 c2 : Nat) (mn x : Int) (v : Bool) (hv : Sp.inB x n1 = v) (w : World) (hb : Blk w b [.slice A1 n1 c1, .slice A2 n2 c2, .int .i64 mn]) :
    Calls Try.prog 40 #[.int .i64 x, .pointer (some ⟨b, 0, none⟩)] w fun e w' => e = .returned (.bool v) ∧ w' = w := by
  have ⟨L, C, F⟩ := hb
  by_cases h1 : 0 ≤ x
  · by_cases h2 : x < (n1 : Int)
    · obtain rfl : v = true := by rw [← hv]; simp [Sp.inB, h1, h2]
      clear hv
      go_enter Try.func40, Try.ntmps40
      go_wp2_with fail
      go_ret
      exact ⟨rfl, rfl⟩
    · obtain rfl : v = false := by rw [← hv]; simp [Sp.inB, h2]
      clear hv
      go_enter Try.func40, Try.ntmps40
      go_wp2_with fail
      go_ret
      exact ⟨rfl, rfl⟩
  · obtain rfl : v = false := by rw [← hv]; simp [Sp.inB, h1]
    clear hv
    go_enter Try.func40, Try.ntmps40
    go_wp2_with fail
    go_ret
    exact ⟨rfl, rfl⟩

set_option maxRecDepth 100000 in
set_option maxHeartbeats 2000000 in
theorem check_any (A1 A2 : Option Addr) (n1 c1 n2 c2 : Nat) (mn ea eb ek ec : Int) (w : World) :
    Calls Try.prog 32 #[.agg #[.slice A1 n1 c1, .slice A2 n2 c2, .int .i64 mn], .agg #[.int .i64 ea, .int .i64 eb, .int .i64 ek, .int .i64 ec]] w fun e w' => e = .returned (.int .i64 (Sp.fieldErr n1 ea eb ek ec)) ∧ Below w.heap.size w w' := by
  go_enter Try.func32, Try.ntmps32
  go_upto_region 1 with fail
  refine wp_named (fun W => ∃ b0 b1, w.heap.size = b0 ∧ w.heap.size + 1 = b1 ∧ Blk W b0 [.slice A1 n1 c1, .slice A2 n2 c2, .int .i64 mn] ∧ Blk W b1 [.int .i64 ea, .int .i64 eb, .int .i64 ek, .int .i64 ec] ∧ Below w.heap.size w W) ⟨_, _, rfl, rfl, ?_, ?_, ?_⟩ ?_
  · exact (Blk.new _ _ _ _ (by first | rfl | simp)).alloc _
  · exact Blk.new _ _ _ _ (by first | rfl | simp)
  · go_grown
  rintro W ⟨b0, b1, e0, e1, B0, B1, hB⟩
  rw [e1, e0]
  have G0 : w.heap.size ≤ b0 := by omega
  have n01 : b0 ≠ b1 := by omega
  have G1 : w.heap.size ≤ b1 := by omega
  have n10 : b1 ≠ b0 := by omega
  clear e0 e1
  have ⟨L0, C0, F0⟩ := B0
  have ⟨L1, C1, F1⟩ := B1
  have arm : True := trivial
  cases i1 : Sp.inB ea n1 with
  | false =>
    have g1 := Sp.inB_false i1
    go_wp2_with (first | (go_at_call 40; with_reducible refine (is_any _ _ _ _ _ _ _ _ ea false (by assumption) _ B0).mono ?_; rintro e w9 ⟨rfl, rfl⟩))
    go_ret
    exact ⟨ret_int (by unfold Sp.fieldErr; (repeat' split) <;> first | rfl | omega | (exfalso; omega)), hB⟩
  | true =>
  have g1 := Sp.inB_true i1
  cases i2 : Sp.inB eb n1 with
  | false =>
    have g2 := Sp.inB_false i2
    go_wp2_with (first | (go_at_call 40; with_reducible refine (is_any _ _ _ _ _ _ _ _ ea true (by assumption) _ B0).mono ?_; rintro e w9 ⟨rfl, rfl⟩) | (go_at_call 40; with_reducible refine (is_any _ _ _ _ _ _ _ _ eb false (by assumption) _ B0).mono ?_; rintro e w9 ⟨rfl, rfl⟩))
    go_ret
    exact ⟨ret_int (by unfold Sp.fieldErr; (repeat' split) <;> first | rfl | omega | (exfalso; omega)), hB⟩
  | true =>
  have g2 := Sp.inB_true i2
  by_cases k1 : ek = 1
  · have t1 : (ek == 1) = true := by simp; omega
    by_cases c1 : ec = -1
    · have c1' : (ec != -1) = false := by simpa using c1
      have HC := Lib.hid c1
      have HK := Lib.hid k1
      clear c1 k1
      go_wp2_with (first | (go_at_call 40; with_reducible refine (is_any _ _ _ _ _ _ _ _ ea true (by assumption) _ B0).mono ?_; rintro e w9 ⟨rfl, rfl⟩) | (go_at_call 40; with_reducible refine (is_any _ _ _ _ _ _ _ _ eb true (by assumption) _ B0).mono ?_; rintro e w9 ⟨rfl, rfl⟩))
      go_ret
      exact ⟨ret_int (by have := HC.out; have := HK.out; unfold Sp.fieldErr; (repeat' split) <;> first | rfl | omega | (exfalso; omega)), hB⟩
    · have c1' : (ec != -1) = true := by simpa using c1
      have HK := Lib.hid k1
      clear k1
      go_wp2_with (first | (go_at_call 40; with_reducible refine (is_any _ _ _ _ _ _ _ _ ea true (by assumption) _ B0).mono ?_; rintro e w9 ⟨rfl, rfl⟩) | (go_at_call 40; with_reducible refine (is_any _ _ _ _ _ _ _ _ eb true (by assumption) _ B0).mono ?_; rintro e w9 ⟨rfl, rfl⟩))
      go_ret
      exact ⟨ret_int (by have := HK.out; unfold Sp.fieldErr; (repeat' split) <;> first | rfl | omega | (exfalso; omega)), hB⟩
  · have u1 : True := trivial
    by_cases k5 : ek = 5
    · have t1 : (ek == 1) = false := by simp; omega
      have t5 : (ek == 5) = true := by simp; omega
      by_cases c1 : ec = -1
      · have c1' : (ec != -1) = false := by simpa using c1
        have HC := Lib.hid c1
        have HK := Lib.hid k5
        clear c1 k5
        go_wp2_with (first | (go_at_call 40; with_reducible refine (is_any _ _ _ _ _ _ _ _ ea true (by assumption) _ B0).mono ?_; rintro e w9 ⟨rfl, rfl⟩) | (go_at_call 40; with_reducible refine (is_any _ _ _ _ _ _ _ _ eb true (by assumption) _ B0).mono ?_; rintro e w9 ⟨rfl, rfl⟩))
        go_ret
        exact ⟨ret_int (by have := HC.out; have := HK.out; unfold Sp.fieldErr; (repeat' split) <;> first | rfl | omega | (exfalso; omega)), hB⟩
      · have c1' : (ec != -1) = true := by simpa using c1
        have HK := Lib.hid k5
        clear k5
        go_wp2_with (first | (go_at_call 40; with_reducible refine (is_any _ _ _ _ _ _ _ _ ea true (by assumption) _ B0).mono ?_; rintro e w9 ⟨rfl, rfl⟩) | (go_at_call 40; with_reducible refine (is_any _ _ _ _ _ _ _ _ eb true (by assumption) _ B0).mono ?_; rintro e w9 ⟨rfl, rfl⟩))
        go_ret
        exact ⟨ret_int (by have := HK.out; unfold Sp.fieldErr; (repeat' split) <;> first | rfl | omega | (exfalso; omega)), hB⟩
    · have u5 : True := trivial
      by_cases k2 : ek = 2
      · have t1 : (ek == 1) = false := by simp; omega
        have t5 : (ek == 5) = false := by simp; omega
        have t2 : (ek == 2) = true := by simp; omega
        cases i3 : Sp.inB ec n1 with
        | true =>
          have g3 := Sp.inB_true i3
          have HK := Lib.hid k2
          clear k2
          go_wp2_with (first | (go_at_call 40; with_reducible refine (is_any _ _ _ _ _ _ _ _ ea true (by assumption) _ B0).mono ?_; rintro e w9 ⟨rfl, rfl⟩) | (go_at_call 40; with_reducible refine (is_any _ _ _ _ _ _ _ _ eb true (by assumption) _ B0).mono ?_; rintro e w9 ⟨rfl, rfl⟩) | (go_at_call 40; with_reducible refine (is_any _ _ _ _ _ _ _ _ ec true (by assumption) _ B0).mono ?_; rintro e w9 ⟨rfl, rfl⟩))
          go_ret
          exact ⟨ret_int (by have := HK.out; unfold Sp.fieldErr; (repeat' split) <;> first | rfl | omega | (exfalso; omega)), hB⟩
        | false =>
          have g3 := Sp.inB_false i3
          have HK := Lib.hid k2
          clear k2
          go_wp2_with (first | (go_at_call 40; with_reducible refine (is_any _ _ _ _ _ _ _ _ ea true (by assumption) _ B0).mono ?_; rintro e w9 ⟨rfl, rfl⟩) | (go_at_call 40; with_reducible refine (is_any _ _ _ _ _ _ _ _ eb true (by assumption) _ B0).mono ?_; rintro e w9 ⟨rfl, rfl⟩) | (go_at_call 40; with_reducible refine (is_any _ _ _ _ _ _ _ _ ec false (by assumption) _ B0).mono ?_; rintro e w9 ⟨rfl, rfl⟩))
          go_ret
          exact ⟨ret_int (by have := HK.out; unfold Sp.fieldErr; (repeat' split) <;> first | rfl | omega | (exfalso; omega)), hB⟩
      · have u2 : True := trivial
        by_cases k3 : ek = 3
        · have t1 : (ek == 1) = false := by simp; omega
          have t5 : (ek == 5) = false := by simp; omega
          have t2 : (ek == 2) = false := by simp; omega
          have t3 : (ek == 3) = true := by simp; omega
          cases i3 : Sp.inB ec n1 with
          | true =>
            have g3 := Sp.inB_true i3
            have HK := Lib.hid k3
            clear k3
            go_wp2_with (first | (go_at_call 40; with_reducible refine (is_any _ _ _ _ _ _ _ _ ea true (by assumption) _ B0).mono ?_; rintro e w9 ⟨rfl, rfl⟩) | (go_at_call 40; with_reducible refine (is_any _ _ _ _ _ _ _ _ eb true (by assumption) _ B0).mono ?_; rintro e w9 ⟨rfl, rfl⟩) | (go_at_call 40; with_reducible refine (is_any _ _ _ _ _ _ _ _ ec true (by assumption) _ B0).mono ?_; rintro e w9 ⟨rfl, rfl⟩))
            go_ret
            exact ⟨ret_int (by have := HK.out; unfold Sp.fieldErr; (repeat' split) <;> first | rfl | omega | (exfalso; omega)), hB⟩
          | false =>
            have g3 := Sp.inB_false i3
            have HK := Lib.hid k3
            clear k3
            go_wp2_with (first | (go_at_call 40; with_reducible refine (is_any _ _ _ _ _ _ _ _ ea true (by assumption) _ B0).mono ?_; rintro e w9 ⟨rfl, rfl⟩) | (go_at_call 40; with_reducible refine (is_any _ _ _ _ _ _ _ _ eb true (by assumption) _ B0).mono ?_; rintro e w9 ⟨rfl, rfl⟩) | (go_at_call 40; with_reducible refine (is_any _ _ _ _ _ _ _ _ ec false (by assumption) _ B0).mono ?_; rintro e w9 ⟨rfl, rfl⟩))
            go_ret
            exact ⟨ret_int (by have := HK.out; unfold Sp.fieldErr; (repeat' split) <;> first | rfl | omega | (exfalso; omega)), hB⟩
        · have u3 : True := trivial
          by_cases k4 : ek = 4
          · have t1 : (ek == 1) = false := by simp; omega
            have t5 : (ek == 5) = false := by simp; omega
            have t2 : (ek == 2) = false := by simp; omega
            have t3 : (ek == 3) = false := by simp; omega
            have t4 : (ek == 4) = true := by simp; omega
            cases i3 : Sp.inB ec n1 with
            | true =>
              have g3 := Sp.inB_true i3
              have HK := Lib.hid k4
              clear k4
              go_wp2_with (first | (go_at_call 40; with_reducible refine (is_any _ _ _ _ _ _ _ _ ea true (by assumption) _ B0).mono ?_; rintro e w9 ⟨rfl, rfl⟩) | (go_at_call 40; with_reducible refine (is_any _ _ _ _ _ _ _ _ eb true (by assumption) _ B0).mono ?_; rintro e w9 ⟨rfl, rfl⟩) | (go_at_call 40; with_reducible refine (is_any _ _ _ _ _ _ _ _ ec true (by assumption) _ B0).mono ?_; rintro e w9 ⟨rfl, rfl⟩))
              go_ret
              exact ⟨ret_int (by have := HK.out; unfold Sp.fieldErr; (repeat' split) <;> first | rfl | omega | (exfalso; omega)), hB⟩
            | false =>
              have g3 := Sp.inB_false i3
              have HK := Lib.hid k4
              clear k4
              go_wp2_with (first | (go_at_call 40; with_reducible refine (is_any _ _ _ _ _ _ _ _ ea true (by assumption) _ B0).mono ?_; rintro e w9 ⟨rfl, rfl⟩) | (go_at_call 40; with_reducible refine (is_any _ _ _ _ _ _ _ _ eb true (by assumption) _ B0).mono ?_; rintro e w9 ⟨rfl, rfl⟩) | (go_at_call 40; with_reducible refine (is_any _ _ _ _ _ _ _ _ ec false (by assumption) _ B0).mono ?_; rintro e w9 ⟨rfl, rfl⟩))
              go_ret
              exact ⟨ret_int (by have := HK.out; unfold Sp.fieldErr; (repeat' split) <;> first | rfl | omega | (exfalso; omega)), hB⟩
          · have u4 : True := trivial
            have t1 : (ek == 1) = false := by simp; omega
            have t5 : (ek == 5) = false := by simp; omega
            have t2 : (ek == 2) = false := by simp; omega
            have t3 : (ek == 3) = false := by simp; omega
            have t4 : (ek == 4) = false := by simp; omega
            go_wp2_with (first | (go_at_call 40; with_reducible refine (is_any _ _ _ _ _ _ _ _ ea true (by assumption) _ B0).mono ?_; rintro e w9 ⟨rfl, rfl⟩) | (go_at_call 40; with_reducible refine (is_any _ _ _ _ _ _ _ _ eb true (by assumption) _ B0).mono ?_; rintro e w9 ⟨rfl, rfl⟩))
            go_ret
            exact ⟨ret_int (by unfold Sp.fieldErr; (repeat' split) <;> first | rfl | omega | (exfalso; omega)), hB⟩
end Go.Proofs.Ytmbihjlflcjlnaa
