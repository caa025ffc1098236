/- The contracts of sets as words: List. -/
import Derived.Test.YtmbihjlflcjlnaaGreatJa
namespace Go.Df
open Go.RowKit
def nint (x : Nat) : Value := .int .i64 (x : Int)
def ofNats (l : List Nat) : List Int := l.map fun (x : Nat) => (x : Int)
theorem nints (l : List Nat) : l.map nint = (ofNats l).map (Value.int .i64) := by simp [nint, ofNats]
theorem gi_ofNats {l : List Nat} {i : Nat} (h : i < l.length) : gi (ofNats l) i = (l[i] : Int) := by rw [gi_lt (by simpa [ofNats] using h)]; simp [ofNats]
theorem ofNats_len (l : List Nat) : (ofNats l).length = l.length := by simp [ofNats]
/-- The elements come back, in a slice of the call's own. -/
def GetList (w : World) (l : List Nat) (e : Ending) (w' : World) : Prop :=
  ∃ A n c, e = .returned (.slice A n c) ∧ SIn w' A n c (ofNats l) ∧ Fr w w' A ∧ Below w.heap.size w w'
end Go.Df
namespace Go.Proofs.YtmbihjlflcjlnaaGreat
open Go.RowKit Go.Df
attribute [local go_sem ↓] Go.wp_at_zero Go.wp_at_succ

set_option maxRecDepth 100000 in
set_option maxHeartbeats 4000000 in
theorem blist_any (A : Option Addr) (n c : Nat) (l : List Nat) (w : World) (hb : Bts w A n l) (hn : n ≤ 1024) :
    Calls Tryz.prog 61 #[.slice A n c] w (GetList w (elemsB l (n * 64))) := by
  obtain ⟨i0, hi, hz0, hz1, hz2⟩ := info_parts int_info
  have HB := Lib.hid hb
  clear hb
  go_enter Tryz.func61, Tryz.ntmps61
  go_wp2
  go_loopw [3, 9] (fun v s9 wr => ∃ i : Nat, i ≤ n ∧ s9 = .int .i64 i ∧ wr.ownsRow w.heap.size 3 1 v (elemsB l (i * 64)).length ((elemsB l (i * 64)).map nint) ∧ Below w.heap.size w wr) (fun _ s9 _ => n - (intOf s9).toNat)
  case atStart => exact ⟨0, Nat.zero_le _, rfl, ⟨by simp [elemsB], .inl ⟨rfl, by simp [elemsB]⟩⟩, Below.refl _ _⟩
  case round =>
  obtain ⟨i, hi', rfl, hown, hB⟩ := hrel
  by_cases hlt : i < n
  case neg =>
    obtain rfl : i = n := by omega
    go_wp2
    go_ret
    have hown' := hown
    rw [nints] at hown'
    obtain ⟨A', c', rfl, h1, h2⟩ := SIn.of_own (xs := ofNats (elemsB l (i * 64))) (by first | exact hown' | (rw [← ofNats_len] at hown'; exact hown'))
    exact ⟨A', _, c', rfl, h1, h2, hB⟩
  obtain ⟨b, o, rfl, hl, hc⟩ := HB.out.2.2 (by omega)
  have hcell : wr.cell? ⟨b, o + i, none⟩ = some (.int .u64 (gw l i)) := (hB.cell (p := ⟨b, o + i, none⟩) hl).trans (hc i hlt)
  have hi1 : (i : Int) < (n : Int) := by omega
  have hv64 := HB.out.2.1 i
  clear hc
  by_cases e : gw l i = 0
  · have e1 : ((gw l i : Int) == 0) = true := by simp [e]
    have E2 : Hid (elemsB l ((i + 1) * 64) = elemsB l (i * 64)) := by show _ = _; rw [show (i + 1) * 64 = i * 64 + 64 by omega]; exact elemsB_zero e 64 (Nat.le_refl _)
    clear e
    go_wp2
    go_roundw
    case rel => exact ⟨i + 1, by omega, by go_num, by rw [E2.out]; exact hown, hB⟩
    case measure => simp [intOf]; omega
  have e1 : ((gw l i : Int) == 0) = false := by simp; omega
  have e2 : (gw l i == 0) = false := by simp; omega
  clear e
  have OWN := Lib.hid hown
  have HBw := Lib.hid hB
  obtain ⟨v0, hv0⟩ : ∃ v0, v0 = gw l i := ⟨_, rfl⟩
  rw [← hv0] at hcell e1 e2 hv64
  have HV := Lib.hid hv0
  clear hv0 hown hB
  go_wp2
  go_loopw [3, 18] (fun v s18 wr => ∃ j : Nat, j ≤ 64 ∧ s18 = .int .i64 j ∧ wr.ownsRow w.heap.size 3 1 v (elemsB l (i * 64 + j)).length ((elemsB l (i * 64 + j)).map nint) ∧ Below w.heap.size w wr) (fun _ s18 _ => 64 - (intOf s18).toNat)
  case atStart => exact ⟨0, by omega, rfl, OWN.out, HBw.out⟩
  case round =>
  rename World => wq
  obtain ⟨j, hj, rfl, hown, hB⟩ := hrel
  by_cases hlj : j < 64
  case neg =>
    obtain rfl : j = 64 := by omega
    go_wp2
    go_roundw
    case rel => exact ⟨i + 1, by omega, by go_num, by rw [show (i + 1) * 64 = i * 64 + 64 by omega]; exact hown, hB⟩
    case measure => simp [intOf]; omega
  have hj1 : (j : Int) < 64 := by omega
  have hbt := bit_test v0 j hv64
  have hsu := elemsB_succ l (i * 64 + j)
  rw [hasB_at hlj, ← HV.out] at hsu
  have hle := elemsB_len l (i * 64 + j)
  cases hT : v0.testBit j with
  | false =>
    rw [hT] at hbt hsu
    have E2 : Hid (elemsB l (i * 64 + (j + 1)) = elemsB l (i * 64 + j)) := by show _ = _; rw [← Nat.add_assoc, hsu]; rfl
    clear hsu hT
    go_wp2
    go_roundw
    case rel => exact ⟨j + 1, by omega, by go_num, by rw [E2.out]; exact hown, hB⟩
    case measure => simp [intOf]; omega
  | true =>
    rw [hT] at hbt hsu
    have E2 : Hid (elemsB l (i * 64 + (j + 1)) = elemsB l (i * 64 + j) ++ [i * 64 + j]) := by show _ = _; rw [← Nat.add_assoc, hsu]; rfl
    clear hsu hT
    go_wp2_with (at_builtin; refine wpList_append_own _ rfl _ _ 66 rfl w.heap.size 3 i0 (.int .i64 0) 1 8 Tryz.underlying66 hi hz0 hz1 hz2 rfl (by decide) _ _ _ rfl (hown.alloc _) ⟨wq.heap.size, 0, none⟩ 1 1 [nint (i * 64 + j)] rfl rfl ?c1 ?c2 ?c3 ?c4 ?c5 ?_)
    case c1 => exact cell_one_new _ _ _
    case c2 => intro u hu; simp at hu; subst hu; rfl
    case c3 => unfold maxLen; omega
    case c4 => omega
    case c5 => have := hB.size; simp; omega
    intro v' w1 hown1 hgrow _
    have hB1 : Below w.heap.size w w1 := (hB.alloc hB.size _).grown hgrow (by have := hB.size; simp; omega) (fun g hg => own_ge hown hg)
    have hown2 : w1.ownsRow w.heap.size 3 1 v' (elemsB l (i * 64 + (j + 1))).length ((elemsB l (i * 64 + (j + 1))).map nint) := by
      rw [E2.out]; simpa using hown1
    clear hown1 E2 hgrow hown hB hcell
    go_wp2
    go_roundw
    case rel => exact ⟨j + 1, by omega, by go_num, hown2, hB1⟩
    case measure => simp [intOf]; omega
end Go.Proofs.YtmbihjlflcjlnaaGreat
