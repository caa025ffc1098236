/- A pack of texts: Jo Jp Kd. -/
import Derived.Test.YtmbihjlflcjlnaaGreatJm
import Derived.Laws.BitsAllLaws
import Derived.Test.YtmbihjlflcjlnaaGreatZa
import Derived.Test.YtmbihjlflcjlnaaGreatZn
import Derived.Laws.IdiomRangeMap
/- The contracts of the solver's reached and of Union (printed by genJo.py). -/
namespace Go.Df
open Go.RowKit
/-- The first i words of the union, and zeros. -/
def mixB (a b : List Nat) (n i : Nat) : List Nat := (List.range n).map fun x => if x < i then gw a x ||| gw b x else 0
theorem mixB_len (a b : List Nat) (n i : Nat) : (mixB a b n i).length = n := by simp [mixB]
theorem gw_mixB {a b : List Nat} {n i x : Nat} (h : x < n) : gw (mixB a b n i) x = if x < i then gw a x ||| gw b x else 0 := by
  rw [gw_lt (by rw [mixB_len]; exact h)]
  simp [mixB]
theorem mixB_zero {a b : List Nat} {n x : Nat} : gw (mixB a b n 0) x = 0 := by
  rcases Nat.lt_or_ge x n with h | h
  · rw [gw_mixB h, if_neg (by omega)]
  · rw [gw_ge (by rw [mixB_len]; exact h)]
theorem mixB_lt {a b : List Nat} {n i : Nat} (ha : ∀ x, gw a x < 18446744073709551616) (hb : ∀ x, gw b x < 18446744073709551616) (x : Nat) : gw (mixB a b n i) x < 18446744073709551616 := by
  rcases Nat.lt_or_ge x n with h | h
  · rw [gw_mixB h]
    split
    · exact union_lt64 (ha x) (hb x)
    · omega
  · rw [gw_ge (by rw [mixB_len]; exact h)]; omega
theorem mixB_succ {a b : List Nat} {n i x : Nat} (h : x < n) : gw (mixB a b n (i + 1)) x = if x = i then gw a i ||| gw b i else gw (mixB a b n i) x := by
  rw [gw_mixB h, gw_mixB h]
  by_cases e : x = i
  · subst e; rw [if_pos (by omega), if_pos rfl]
  · rw [if_neg e]
    by_cases e2 : x < i
    · rw [if_pos (by omega), if_pos e2]
    · rw [if_neg (by omega), if_neg e2]
theorem mixB_all {a b : List Nat} {n y : Nat} (ha : a.length ≤ n) (hb : b.length ≤ n) : hasB (mixB a b n n) y = (hasB a y || hasB b y) := by
  rw [← hasB_union ha hb]
  have : mixB a b n n = unionB a b n := by
    unfold mixB unionB
    refine List.map_congr_left fun x hx => ?_
    rw [if_pos (List.mem_range.1 hx)]
  rw [this]
end Go.Df
namespace Go.Proofs.YtmbihjlflcjlnaaGreat
open Go.RowKit Go.Df Go.Df.If
attribute [local go_sem ↓] Go.wp_at_zero Go.wp_at_succ

set_option maxRecDepth 100000 in
set_option maxHeartbeats 4000000 in
theorem reached_any {p : Pb} {K : Kn} {w0 : World} {b : Nat} {O : Nat → Prop} {G : Gh} {s : St} (w : World) (n : Nat) (hm : Mem p K w0 b O G w s) (hn : n < K.n1) :
    Calls Tryz.prog 32 #[.pointer (some ⟨b, 0, none⟩), .int .i64 n] w fun e w' => e = .returned (.bool (s.h n 0 0)) ∧ Below w.heap.size w w' := by
  have HM := Lib.hid hm
  have B0 := hm.box
  unfold sbox at B0
  have ⟨LB, CB, FB⟩ := B0
  have hn' : (n : Int) < (K.n1 : Int) := by omega
  obtain ⟨A, k, c, l, hv, hbt, hk, hA, hsf, hhas⟩ := hm.hbits n 0 hn
  have hget := get_any K.hr K.n1 K.n1 n 0 G.hm G.hc G.hv w hm.held hn (by omega)
  rw [hv] at hget
  have HG := Lib.hid hget
  have HBT := Lib.hid hbt
  have HH := Lib.hid (hhas 0)
  clear hm hget hbt hsf hhas hA hv
  go_enter Tryz.func32, Tryz.ntmps32
  go_wp2_with (first | (go_at_call 62; refine HG.out.mono ?_; rintro e w1 ⟨rfl, hb1⟩) | (go_at_call 68; refine (bhas_any A k c 0 l _ (HBT.out.later hb1) (by omega)).mono ?_; rintro e w2 ⟨rfl, rfl⟩))
  go_ret
  rw [HH.out]
  exact ⟨rfl, hb1⟩

set_option maxRecDepth 100000 in
set_option maxHeartbeats 4000000 in
theorem union_l (A B : Option Addr) (n c m d : Nat) (a b : List Nat) (w : World) (ha : Bts w A n a) (hb : Bts w B m b) (hn : n ≤ 1024) (_hm : m ≤ 1024) (h : m ≤ n) :
    Calls Tryz.prog 66 #[.slice A n c, .slice B m d] w (GetSet w n (fun y => hasB a y || hasB b y)) := by
  obtain ⟨i0, hi, hz0, hz1, hz2⟩ := info_parts u64_info
  have HA := Lib.hid ha
  have HB := Lib.hid hb
  have HAN := Lib.hid ha.1
  have HBN := Lib.hid hb.1
  have hmx : max (n : Int) (m : Int) = (n : Int) := by omega
  have hnM : n ≤ n := by omega
  have hmM : m ≤ n := by omega
  have hM1 : n ≤ 1024 := by omega
  have hmk := fun w => run_make1 (P := Tryz.prog) Tryz.underlying104 hi hz0 hz1 hz2 rfl n (by omega) (by omega) _ rfl w
  obtain ⟨MZ, hMZ⟩ : ∃ M, (List.replicate n (Value.int .u64 0)).toArray = M := ⟨_, rfl⟩
  rw [hMZ] at hmk
  have HMZ := Lib.hid hMZ
  clear ha hb hMZ
  go_enter Tryz.func66, Tryz.ntmps66
  go_upto_region 2 with fail
  refine wp_named (fun V => ∃ g, w.heap.size = g ∧ Wrd V g n (mixB a b n 0) ∧ Below w.heap.size w V) ⟨_, rfl, ?_, ((Below.refl _ _).alloc (Nat.le_refl _) _)⟩ ?_
  · refine ⟨by simp, mixB_len _ _ _ _, fun i => mixB_lt HA.out.2.1 HB.out.2.1 i, fun i hi => ?_, fun i => World.frozen?_alloc_new w _ _ i⟩
    rw [World.cell?_alloc_new, ← HMZ.out, mixB_zero]
    simp [hi]
  rintro V ⟨g, eg, WV, hbV⟩
  rw [eg]
  have HEG := Lib.hid eg
  have W0 := Lib.hid WV
  have HBV := Lib.hid hbV
  clear WV eg hmk hbV
  go_wp2_with fail
  go_loopw [15] (fun s15 wr => ∃ i : Nat, i ≤ n ∧ s15 = .int .i64 i ∧ Hid (Wrd wr g n (mixB a b n i)) ∧ Hid (Below w.heap.size w wr)) (fun s15 _ => n - (intOf s15).toNat)
  case atStart => exact ⟨0, Nat.zero_le _, rfl, W0, HBV⟩
  case round =>
  obtain ⟨i, hi', rfl, WR, BR⟩ := hrel
  clear W0 HBV
  by_cases hlt : i < n
  · have hcell := WR.out.2.2.2.1 i hlt
    have hfr := WR.out.2.2.2.2 i
    have hgl := WR.out.1
    have hi1 : (i : Int) < (n : Int) := by omega
    have hor := bits_or_nat (gw a i) (gw b i) (HA.out.2.1 i) (HB.out.2.1 i)
    have HS : Hid (Wrd (wr.setCell ⟨g, i, none⟩ (.int .u64 ((gw a i ||| gw b i : Nat) : Int))) g n (mixB a b n (i + 1))) := Lib.hid (WR.out.set (union_lt64 (HA.out.2.1 i) (HB.out.2.1 i)) (mixB_len _ _ _ _) (fun x hx => mixB_succ hx))
    have HS2 : Hid (Below w.heap.size w (wr.setCell ⟨g, i, none⟩ (.int .u64 ((gw a i ||| gw b i : Nat) : Int)))) := Lib.hid (BR.out.setCell (show w.heap.size ≤ g by have := HEG.out; omega) _)
    go_wp2_with fail
    refine (word_any A n c i a _ (HA.out.later BR.out) (by omega)).mono ?_
    rintro e w1 ⟨rfl, rfl⟩
    go_wp2_with fail
    refine (word_any B m d i b _ (HB.out.later BR.out) (by omega)).mono ?_
    rintro e w1 ⟨rfl, rfl⟩
    go_wp2_with fail
    exact ⟨⟨i + 1, by omega, by go_num, HS, HS2⟩, by simp [intOf]; omega⟩
  obtain rfl : n = i := by omega
  go_wp2_with (go_at_call 115; refine (normal_any g n n _ _ WR.out (Nat.le_refl _) (by omega)).mono ?_; rintro e w2 ⟨A', n', l', rfl, hb', hh', hn', hA', hA2, rfl⟩)
  go_ret
  refine ⟨A', n', l', rfl, hb', fun y => ?_, by omega, fun x hx => ?_, hA2, BR.out⟩
  · rw [hh' y, mixB_all (by rw [HAN.out]; exact hnM) (by rw [HBN.out]; exact hmM)]
  · rw [hA' x hx]
    have := WR.out.1
    have := HEG.out
    omega

set_option maxRecDepth 100000 in
set_option maxHeartbeats 4000000 in
theorem union_r (A B : Option Addr) (n c m d : Nat) (a b : List Nat) (w : World) (ha : Bts w A n a) (hb : Bts w B m b) (hn : n ≤ 1024) (hm : m ≤ 1024) (h : n < m) :
    Calls Tryz.prog 66 #[.slice A n c, .slice B m d] w (GetSet w m (fun y => hasB a y || hasB b y)) := by
  obtain ⟨i0, hi, hz0, hz1, hz2⟩ := info_parts u64_info
  have HA := Lib.hid ha
  have HB := Lib.hid hb
  have HAN := Lib.hid ha.1
  have HBN := Lib.hid hb.1
  have hmx : max (n : Int) (m : Int) = (m : Int) := by omega
  have hnM : n ≤ m := by omega
  have hmM : m ≤ m := by omega
  have hM1 : m ≤ 1024 := by omega
  have hmk := fun w => run_make1 (P := Tryz.prog) Tryz.underlying104 hi hz0 hz1 hz2 rfl m (by omega) (by omega) _ rfl w
  obtain ⟨MZ, hMZ⟩ : ∃ M, (List.replicate m (Value.int .u64 0)).toArray = M := ⟨_, rfl⟩
  rw [hMZ] at hmk
  have HMZ := Lib.hid hMZ
  clear ha hb hMZ
  go_enter Tryz.func66, Tryz.ntmps66
  go_upto_region 2 with fail
  refine wp_named (fun V => ∃ g, w.heap.size = g ∧ Wrd V g m (mixB a b m 0) ∧ Below w.heap.size w V) ⟨_, rfl, ?_, ((Below.refl _ _).alloc (Nat.le_refl _) _)⟩ ?_
  · refine ⟨by simp, mixB_len _ _ _ _, fun i => mixB_lt HA.out.2.1 HB.out.2.1 i, fun i hi => ?_, fun i => World.frozen?_alloc_new w _ _ i⟩
    rw [World.cell?_alloc_new, ← HMZ.out, mixB_zero]
    simp [hi]
  rintro V ⟨g, eg, WV, hbV⟩
  rw [eg]
  have HEG := Lib.hid eg
  have W0 := Lib.hid WV
  have HBV := Lib.hid hbV
  clear WV eg hmk hbV
  go_wp2_with fail
  go_loopw [15] (fun s15 wr => ∃ i : Nat, i ≤ m ∧ s15 = .int .i64 i ∧ Hid (Wrd wr g m (mixB a b m i)) ∧ Hid (Below w.heap.size w wr)) (fun s15 _ => m - (intOf s15).toNat)
  case atStart => exact ⟨0, Nat.zero_le _, rfl, W0, HBV⟩
  case round =>
  obtain ⟨i, hi', rfl, WR, BR⟩ := hrel
  clear W0 HBV
  by_cases hlt : i < m
  · have hcell := WR.out.2.2.2.1 i hlt
    have hfr := WR.out.2.2.2.2 i
    have hgl := WR.out.1
    have hi1 : (i : Int) < (m : Int) := by omega
    have hor := bits_or_nat (gw a i) (gw b i) (HA.out.2.1 i) (HB.out.2.1 i)
    have HS : Hid (Wrd (wr.setCell ⟨g, i, none⟩ (.int .u64 ((gw a i ||| gw b i : Nat) : Int))) g m (mixB a b m (i + 1))) := Lib.hid (WR.out.set (union_lt64 (HA.out.2.1 i) (HB.out.2.1 i)) (mixB_len _ _ _ _) (fun x hx => mixB_succ hx))
    have HS2 : Hid (Below w.heap.size w (wr.setCell ⟨g, i, none⟩ (.int .u64 ((gw a i ||| gw b i : Nat) : Int)))) := Lib.hid (BR.out.setCell (show w.heap.size ≤ g by have := HEG.out; omega) _)
    go_wp2_with fail
    refine (word_any A n c i a _ (HA.out.later BR.out) (by omega)).mono ?_
    rintro e w1 ⟨rfl, rfl⟩
    go_wp2_with fail
    refine (word_any B m d i b _ (HB.out.later BR.out) (by omega)).mono ?_
    rintro e w1 ⟨rfl, rfl⟩
    go_wp2_with fail
    exact ⟨⟨i + 1, by omega, by go_num, HS, HS2⟩, by simp [intOf]; omega⟩
  obtain rfl : m = i := by omega
  go_wp2_with (go_at_call 115; refine (normal_any g m m _ _ WR.out (Nat.le_refl _) (by omega)).mono ?_; rintro e w2 ⟨A', n', l', rfl, hb', hh', hn', hA', hA2, rfl⟩)
  go_ret
  refine ⟨A', n', l', rfl, hb', fun y => ?_, by omega, fun x hx => ?_, hA2, BR.out⟩
  · rw [hh' y, mixB_all (by rw [HAN.out]; exact hnM) (by rw [HBN.out]; exact hmM)]
  · rw [hA' x hx]
    have := WR.out.1
    have := HEG.out
    omega

theorem union_any (A B : Option Addr) (n c m d : Nat) (a b : List Nat) (w : World) (ha : Bts w A n a) (hb : Bts w B m b) (hn : n ≤ 1024) (hm : m ≤ 1024) :
    Calls Tryz.prog 66 #[.slice A n c, .slice B m d] w (GetSet w 1024 (fun y => hasB a y || hasB b y)) := by
  rcases Nat.lt_or_ge n m with h | h
  · exact (union_r A B n c m d a b w ha hb hn hm h).mono fun e w' ⟨A', n', l', h1, h2, h3, h4, h5⟩ => ⟨A', n', l', h1, h2, h3, by omega, h5⟩
  · exact (union_l A B n c m d a b w ha hb hn hm h).mono fun e w' ⟨A', n', l', h1, h2, h3, h4, h5⟩ => ⟨A', n', l', h1, h2, h3, by omega, h5⟩
end Go.Proofs.YtmbihjlflcjlnaaGreat
/- The contract of Without, at the element 0. -/
namespace Go.Df
open Go.RowKit
theorem mask_bit : ∀ j, j < 64 → Nat.testBit 18446744073709551614 j = (j != 0) := by decide
/-- The words without the element 0. -/
def woB (l : List Nat) (n : Nat) : List Nat := (List.range n).map fun i => if i = 0 then gw l 0 &&& 18446744073709551614 else gw l i
theorem woB_len (l : List Nat) (n : Nat) : (woB l n).length = n := by simp [woB]
theorem gw_woB {l : List Nat} {n i : Nat} (h : i < n) : gw (woB l n) i = if i = 0 then gw l 0 &&& 18446744073709551614 else gw l i := by
  rw [gw_lt (by rw [woB_len]; exact h)]
  simp [woB]
theorem hasB_wo {l : List Nat} {n : Nat} (h : l.length = n) (y : Nat) : hasB (woB l n) y = (hasB l y && y != 0) := by
  unfold hasB
  rcases Nat.lt_or_ge (y / 64) n with h1 | h1
  · rw [gw_woB h1]
    by_cases e : y / 64 = 0
    · rw [if_pos e, Nat.testBit_and, mask_bit _ (Nat.mod_lt _ (by omega)), e]
      have : y % 64 = y := by omega
      rw [this]
    · rw [if_neg e]
      have : (y != 0) = true := by simp; omega
      rw [this, Bool.and_true]
  · rw [gw_ge (by rw [woB_len]; exact h1), gw_ge (by omega)]
    simp
theorem hasB_zero_none {l : List Nat} (h : l.length = 0) (y : Nat) : hasB l y = (hasB l y && y != 0) := by
  rw [hasB_ge (by omega)]
  rfl
end Go.Df
namespace Go.Proofs.YtmbihjlflcjlnaaGreat
open Go.RowKit Go.Df Go.Df.If
attribute [local go_sem ↓] Go.wp_at_zero Go.wp_at_succ

set_option maxRecDepth 100000 in
set_option maxHeartbeats 4000000 in
theorem without_any (A : Option Addr) (n c : Nat) (l : List Nat) (w : World) (hb : Bts w A n l) (hn : n ≤ 1024) (hA : A = none → n = 0) :
    Calls Tryz.prog 67 #[.slice A n c, .int .i64 0] w (GetSet w 1024 (fun y => hasB l y && y != 0)) := by
  obtain ⟨i0, hi, hz0, hz1, hz2⟩ := info_parts u64_info
  have HB := Lib.hid hb
  have HN := Lib.hid hb.1
  have HA := Lib.hid hA
  obtain ⟨MZ, hMZ⟩ : ∃ M, (List.replicate n (Value.int .u64 0)).toArray = M := ⟨_, rfl⟩
  have hmk := fun w => run_make1 (P := Tryz.prog) Tryz.underlying104 hi hz0 hz1 hz2 rfl n (by omega) (by omega) MZ hMZ w
  have HMZ := Lib.hid hMZ
  clear hb hA hMZ
  go_enter Tryz.func67, Tryz.ntmps67
  go_upto_region 2 with fail
  go_upto_region 3 with (refine wpList_copy_splice rfl _ _ 104 104 rfl 182 Tryz.underlying104 (by kernel_rfl) _ _ _ _ _ _ rfl rfl w.heap.size 0 (List.replicate n (Value.int .u64 0)) 182 (by rw [HMZ.out]; exact heap_alloc_new w _) (l.map fun (v : Nat) => Value.int .u64 (v : Int)) (by rw [List.length_map, HN.out]; exact (Nat.min_eq_left (Nat.le_refl _)).symm) (words_src w HB.out HA.out) (by rw [List.length_map, HN.out, List.length_replicate, Nat.zero_add]; exact Nat.le_refl _) (by intro v hv; rw [List.mem_map] at hv; obtain ⟨u, -, rfl⟩ := hv; rfl) w.heap.size w ((Below.refl _ _).alloc (Nat.le_refl _) _) (Nat.le_refl _) ?_; intro wc hcp hbc)
  refine wp_named (fun V => ∃ g, w.heap.size = g ∧ Wrd V g n (padB l n) ∧ Below w.heap.size w V) ⟨_, rfl, wrd_copied hcp.out HB.out (Nat.le_refl _), hbc⟩ ?_
  rintro V ⟨g, eg, WV, hbV⟩
  rw [eg]
  have HWV := Lib.hid WV
  have HEG := Lib.hid eg
  clear WV hcp hbc eg hmk
  by_cases h0 : n = 0
  · subst h0
    go_wp2_with (go_at_call 115; refine (normal_any g 0 0 _ _ HWV.out (Nat.le_refl _) (by omega)).mono ?_; rintro e w2 ⟨A', n', l', rfl, hb', hh', hn', hA', hA2, rfl⟩)
    go_ret
    refine ⟨A', n', l', rfl, hb', fun y => ?_, by omega, fun a ha => ?_, hA2, hbV⟩
    · rw [hh' y]
      have e1 : hasB (padB l 0) y = hasB l y := by unfold hasB; rw [gw_padB (by rw [HN.out]; exact Nat.le_refl _)]
      rw [e1]
      exact hasB_zero_none HN.out y
    · rw [hA' a ha]
      have := HWV.out.1
      have := HEG.out
      omega
  have hn0 : (0 : Int) < (n : Int) := by omega
  have hn1 : 0 < n := by omega
  have hcell : V.cell? ⟨g, 0, none⟩ = some (.int .u64 (gw l 0)) := by rw [HWV.out.2.2.2.1 0 hn1, gw_padB (by rw [HN.out]; exact Nat.le_refl _)]
  have hfr := HWV.out.2.2.2.2 0
  have hgl := HWV.out.1
  have hor := u64_andNot_nat (gw l 0) 1 (HB.out.2.1 0) (by omega)
  simp only [Int.natCast_one, Nat.reduceSub] at hor
  clear h0
  go_upto_region 5 with fail
  refine wp_named (fun U => Wrd U g n (woB l n) ∧ Below w.heap.size w U) ⟨?_, hbV.setCell (show w.heap.size ≤ g by have := HEG.out; omega) _⟩ ?_
  · refine HWV.out.set (j := 0) (v := gw l 0 &&& 18446744073709551614) (Nat.lt_of_le_of_lt Nat.and_le_left (HB.out.2.1 0)) (woB_len l n) (fun i hi => ?_)
    rw [gw_woB hi, gw_padB (by rw [HN.out]; exact Nat.le_refl _)]
  rintro U ⟨WU, hbU⟩
  clear hcell hfr hor hgl
  go_wp2_with (go_at_call 115; refine (normal_any g n n _ _ WU (Nat.le_refl _) (by omega)).mono ?_; rintro e w2 ⟨A', n', l', rfl, hb', hh', hn', hA', hA2, rfl⟩)
  go_ret
  refine ⟨A', n', l', rfl, hb', fun y => ?_, by omega, fun a ha => ?_, hA2, hbU⟩
  · rw [hh' y]
    exact hasB_wo HN.out y
  · rw [hA' a ha]
    have := WU.1
    have := HEG.out
    omega
end Go.Proofs.YtmbihjlflcjlnaaGreat
/- The contract of Solve, behind its Check. -/
namespace Go.Df
open Go.RowKit
namespace If
open Sp
open Classical in
/-- The facts of the solution at a node, ascending. -/
noncomputable def solF (p : Pb) (i : Nat) : List Int := ofNats ((List.range p.F.toNat).filter fun d => d != 0 && decide (∃ a, PE p a i d))
open Classical in
noncomputable def solR (p : Pb) (i : Nat) : Bool := decide (PE p 0 i 0)
open Classical in
theorem solR_eq {p : Pb} {i : Nat} {b : Bool} (h : b = true ↔ PE p 0 i 0) : b = solR p i := by
  unfold solR
  rw [Bool.eq_iff_iff, decide_eq_true_iff]
  exact h
open Classical in
theorem solF_eq {p : Pb} (ho : Ok p) {i : Nat} {l : List Nat} (h : ∀ y, hasB l y = true ↔ (∃ a, PE p a i y) ∧ y ≠ 0) : ofNats (elemsB l (l.length * 64)) = solF p i := by
  unfold solF
  rw [elemsB_eq (F := p.F.toNat) (f := fun d => d != 0 && decide (∃ a, PE p a i d)) (fun x => by rw [Bool.eq_iff_iff, h x]; simp [and_comm]) (fun x hx => by
    simp at hx
    obtain ⟨_, a, ha⟩ := hx
    have := ha.rng ho
    omega)]
theorem retNamed {P : Program} {f : Func} {Q : Ending → World → Prop} {e : Exit} {a : Act} {w : World} (S : World → Prop) (h0 : S w) (h : ∀ X, S X → bodyPost P f Q e a X) : bodyPost P f Q e a w := h w h0
/-- The first i truths of a solution, and falsehoods. -/
def SolA (p : Pb) (w : World) (g n i : Nat) : Prop := g < w.heap.size ∧ (∀ x, x < n → w.cell? ⟨g, x, none⟩ = some (.bool (decide (x < i) && solR p x))) ∧ ∀ x, w.frozen? ⟨g, x, none⟩ = false
theorem SolA.kept {p : Pb} {X : List Nat} {w w' : World} {g n i : Nat} (h : SolA p w g n i) (hk : Kept X w w') (hX : g ∉ X) : SolA p w' g n i :=
  ⟨Nat.lt_of_lt_of_le h.1 hk.size, fun x hx => (hk.cell g x h.1 hX).trans (h.2.1 x hx), fun x => (hk.frozen g x h.1 hX).trans (h.2.2 x)⟩
theorem SolA.set {p : Pb} {w : World} {g n i : Nat} (h : SolA p w g n i) (hi : i < n) : SolA p (w.setCell ⟨g, i, none⟩ (.bool (solR p i))) g n (i + 1) := by
  refine ⟨by simpa [World.setCell] using h.1, fun x hx => ?_, fun x => by simpa using h.2.2 x⟩
  by_cases e : x = i
  · subst e
    rw [set_same (h.2.1 x hx)]
    simp
  · rw [set_other (by right; simpa using fun e' => e e'.symm), h.2.1 x hx]
    have : decide (x < i + 1) = decide (x < i) := by by_cases h1 : x < i <;> simp [h1] <;> omega
    rw [this]
/-- The first i lists of facts of a solution, in slices that lie beyond base, and nothing. -/
def SolB (p : Pb) (base : Nat) (w : World) (g n i : Nat) : Prop := g < base ∧ g < w.heap.size ∧ (∀ x, x < n → ∃ A m c, w.cell? ⟨g, x, none⟩ = some (.slice A m c) ∧ Ints w A m (if x < i then solF p x else []) ∧ m ≤ 9223372036854775807 ∧ ∀ a, A = some a → base ≤ a.block) ∧ ∀ x, w.frozen? ⟨g, x, none⟩ = false
theorem ints_apart {X : List Nat} {w w' : World} {A : Option Addr} {m base : Nat} {l : List Int} (h : Ints w A m l) (hA : ∀ a, A = some a → base ≤ a.block) (hk : Kept X w w') (hX : ∀ x ∈ X, x < base) : Ints w' A m l :=
  ⟨h.1, fun hn => by
    obtain ⟨b, o, e, hl, hc⟩ := h.2 hn
    exact ⟨b, o, e, Nat.lt_of_lt_of_le hl hk.size, fun i hi => (hk.cell b (o + i) hl (fun hm => by have h1 := hX b hm; have h2 : base ≤ b := hA _ e; omega)).trans (hc i hi)⟩⟩
theorem SolB.kept {p : Pb} {base : Nat} {X : List Nat} {w w' : World} {g n i : Nat} (h : SolB p base w g n i) (hk : Kept X w w') (hX : g ∉ X) (hX2 : ∀ x ∈ X, x < base) : SolB p base w' g n i :=
  ⟨h.1, Nat.lt_of_lt_of_le h.2.1 hk.size, fun x hx => by
    obtain ⟨A, m, c, h1, h2, h3, h4⟩ := h.2.2.1 x hx
    exact ⟨A, m, c, (hk.cell g x h.2.1 hX).trans h1, ints_apart h2 h4 hk hX2, h3, h4⟩, fun x => (hk.frozen g x h.2.1 hX).trans (h.2.2.2 x)⟩
theorem SolB.set {p : Pb} {base : Nat} {w : World} {g n i : Nat} {A : Option Addr} {m c : Nat} (h : SolB p base w g n i) (hi : i < n) (hA : Ints w A m (solF p i)) (hm : m ≤ 9223372036854775807) (hb : ∀ a, A = some a → base ≤ a.block) :
    SolB p base (w.setCell ⟨g, i, none⟩ (.slice A m c)) g n (i + 1) := by
  have hk : Kept [g] w (w.setCell ⟨g, i, none⟩ (.slice A m c)) := (Kept.refl [g] w).set g i _ (.inl (by simp))
  refine ⟨h.1, by simpa [World.setCell] using h.2.1, fun x hx => ?_, fun x => by simpa using h.2.2.2 x⟩
  obtain ⟨A', m', c', h1, h2, h3, h4⟩ := h.2.2.1 x hx
  by_cases e : x = i
  · subst e
    refine ⟨A, m, c, set_same h1, ?_, hm, hb⟩
    rw [if_pos (by omega)]
    exact ints_apart hA hb hk (by simpa using h.1)
  · refine ⟨A', m', c', ?_, ?_, h3, h4⟩
    · rw [set_other (by right; simpa using fun e' => e e'.symm)]; exact h1
    · have : (x < i + 1) = (x < i) := by simp; omega
      simp only [this]
      exact ints_apart h2 h4 hk (by simpa using h.1)
/-- What the union of the visited sets holds. -/
def UnL (h : Nat → Nat → Bool) (l : List Nat) (left : Lit → Bool) : Prop := ∀ y, hasB l y = true ↔ ∃ a : Nat, left (.int .i64 (a : Int)) = false ∧ h a y = true
theorem UnL.init {h : Nat → Nat → Bool} {left : Lit → Bool} (hz : ∀ a y, left (.int .i64 ((a : Nat) : Int)) = false → h a y = false) : UnL h [] left := fun y => by
  rw [hasB_nil]
  refine ⟨fun h' => absurd h' (by simp), fun ⟨a, h1, h2⟩ => ?_⟩
  rw [hz a y h1] at h2
  exact h2
theorem left_minus (left : Lit → Bool) (x a : Int) : (left (.int .i64 a) && !(Lit.int .i64 a).sameKey (.int .i64 x)) = false ↔ (left (.int .i64 a) = false ∨ a = x) := by
  have : (Lit.int .i64 a).sameKey (.int .i64 x) = decide (a = x) := by
    simp [Lit.sameKey]
  rw [this]
  by_cases e : a = x <;> simp [e]
theorem UnL.step {h : Nat → Nat → Bool} {l l' : List Nat} {left : Lit → Bool} {x : Nat} (hu : UnL h l left) (hl : ∀ y, hasB l' y = (hasB l y || h x y)) : UnL h l' (fun z => left z && !z.sameKey (.int .i64 (x : Int))) := fun y => by
  rw [hl y, Bool.or_eq_true, hu y]
  constructor
  · rintro (⟨a, h1, h2⟩ | h1)
    · exact ⟨a, (left_minus _ _ _).2 (.inl h1), h2⟩
    · exact ⟨x, (left_minus _ _ _).2 (.inr rfl), h1⟩
  · rintro ⟨a, h1, h2⟩
    rcases (left_minus _ _ _).1 h1 with h3 | h3
    · exact .inl ⟨a, h3, h2⟩
    · obtain rfl : a = x := by omega
      exact .inr h2
theorem UnL.neg {h : Nat → Nat → Bool} {l l' : List Nat} {left : Lit → Bool} {x : Int} (hu : UnL h l left) (hx : x < 0) (hl : ∀ y, hasB l' y = hasB l y) : UnL h l' (fun z => left z && !z.sameKey (.int .i64 x)) := fun y => by
  rw [hl y, hu y]
  constructor
  · rintro ⟨a, h1, h2⟩
    exact ⟨a, (left_minus _ _ _).2 (.inl h1), h2⟩
  · rintro ⟨a, h1, h2⟩
    rcases (left_minus _ _ _).1 h1 with h3 | h3
    · exact ⟨a, h3, h2⟩
    · omega
end If
end Go.Df
namespace Go.Proofs.YtmbihjlflcjlnaaGreat
open Go.RowKit Go.Df Go.Df.If
attribute [local go_sem ↓] Go.wp_at_zero Go.wp_at_succ
theorem bool_info : (Tryz.prog.info? 4).map (fun i => (i.zero, i.size, i.bytes)) = some (some (.bool false), 1, 1) := by kernel_rfl
/-- The solution comes back. -/
def GetSol (p : Pb) (w : World) (e : Ending) (w' : World) : Prop :=
  ∃ A1 A2 n, e = .returned (.tuple #[.agg #[.slice A1 n n, .slice A2 n n], .int .i64 0]) ∧ n = p.ns.length ∧ Bls w' A1 n ((List.range n).map (solR p)) ∧ IntsR w' A2 n ((List.range n).map (solF p)) ∧ Below w.heap.size w w'

set_option maxRecDepth 100000 in
set_option maxHeartbeats 4000000 in
theorem solve_ok {p : Pb} (A1 A2 A3 A4 : Option Addr) (n1 c1 n2 c2 n3 c3 n4 c4 : Nat) (mN : Nat) (F : Int) (w : World) (hmn : p.mn = mN) (hF : p.F = F) (hnd : Nds w A1 n1 p.ns) (hed : Eds w A2 n2 p.es) (hfl : Flw w A3 n3 p.fl) (hsd : Sds w A4 n4 p.sd) (ho : Ok p) (hn4 : n4 ≤ 1000000)
    (hchk : ∀ w1, Below w.heap.size w w1 → Calls Tryz.prog 24 #[.agg #[.slice A1 n1 c1, .slice A2 n2 c2, .int .i64 mN, .int .i64 F, .slice A3 n3 c3, .slice A4 n4 c4]] w1 fun e w' => e = .returned (.int .i64 0) ∧ Below w1.heap.size w1 w') :
    Calls Tryz.prog 29 #[.agg #[.slice A1 n1 c1, .slice A2 n2 c2, .int .i64 mN, .int .i64 F, .slice A3 n3 c3, .slice A4 n4 c4]] w (GetSol p w) := by
  obtain ⟨i1, hi, hz0, hz1, hz2⟩ := info_parts bool_info
  obtain ⟨j0, ji, jz0, jz1, jz2⟩ := info_parts row_info
  obtain ⟨MB, hMB⟩ : ∃ M, (List.replicate n1 (Value.bool false)).toArray = M := ⟨_, rfl⟩
  obtain ⟨MR, hMR⟩ : ∃ M, (List.replicate n1 (Value.slice none 0 0)).toArray = M := ⟨_, rfl⟩
  have hN2 : n1 ≤ 8192 := by have := (sup_parts ho.sup).1; have := hnd.1; omega
  have hmkB := fun w => run_make1 (P := Tryz.prog) Tryz.underlying46 hi hz0 hz1 hz2 rfl n1 (by omega) (by omega) MB hMB w
  have hmkR := fun w => run_make1 (P := Tryz.prog) Tryz.underlying47 ji jz0 jz1 jz2 rfl n1 (by omega) (by omega) MR hMR w
  have HMB := Lib.hid hMB
  have HMR := Lib.hid hMR
  have HCHK := Lib.hid hchk
  have HND := Lib.hid hnd
  have HED := Lib.hid hed
  have HFL := Lib.hid hfl
  have HSD := Lib.hid hsd
  have HO := Lib.hid ho
  have HF := Lib.hid hF
  have HMN := Lib.hid hmn
  clear hMB hMR hchk hnd hed hfl hsd ho hF hmn
  go_enter Tryz.func29, Tryz.ntmps29
  go_upto_region 1 with fail
  refine wp_named (fun W => ∃ b0 b1, w.heap.size = b0 ∧ w.heap.size + 1 = b1 ∧ Blk W b0 [.slice A1 n1 c1, .slice A2 n2 c2, .int .i64 mN, .int .i64 F, .slice A3 n3 c3, .slice A4 n4 c4] ∧ Blk W b1 [.slice none 0 0, .slice none 0 0] ∧ Below w.heap.size w W) ⟨_, _, rfl, rfl, ?_, ?_, ?_⟩ ?_
  · exact (Blk.new _ _ _ _ (by first | rfl | simp)).alloc _
  · exact Blk.new _ _ _ _ (by first | rfl | simp)
  · go_grown
  rintro W ⟨b0, b1, e0, e1, B0, B1, hB⟩
  rw [e1, e0]
  have G0 : w.heap.size ≤ b0 := by omega
  have n01 : b0 ≠ b1 := by omega
  have G1 : w.heap.size ≤ b1 := by omega
  have n10 : b1 ≠ b0 := by omega
  clear e0 e1
  have ⟨L0, C0, F0⟩ := B0
  have ⟨L1, C1, F1⟩ := B1
  go_upto_region 2 with (go_at_call 24; refine (HCHK.out _ hB).mono ?_; rintro e w1 ⟨rfl, hb1⟩)
  have hkw1 : Kept [] w w1 := ((Kept.refl _ _).call hB).call hb1
  have HB0 := Lib.hid (B0.later hb1)
  have HB1 := Lib.hid (B1.later hb1)
  have ⟨L01, C01, F01⟩ := HB0.out
  clear C0 F0 C1 F1
  go_upto_region 5 with (go_at_call 25; refine (tabulate_any A1 A2 A3 A4 n1 c1 n2 c2 n3 c3 n4 c4 mN F w1 HMN.out HF.out (HND.out.later hkw1.toBelow) (HED.out.later hkw1.toBelow) (HFL.out.later hkw1.toBelow) (HSD.out.later hkw1.toBelow) HO.out hn4).mono ?_; rintro e w2 ⟨kn, g, O, G, s, rfl, hin, hm, hpe, hwf⟩)
  obtain rfl : n1 = kn.n1 := by have h1 := hin.nd.1; have h2 := HND.out.1; omega
  have HM := Lib.hid hm
  have HPE := Lib.hid hpe
  have HWF := Lib.hid hwf
  have hkw2 : Kept [] w1 w2 := (Kept.refl _ _).call hm.low
  have HK02 : Hid (Kept [] w w2) := Lib.hid (keptTrans hkw1 hkw2)
  have HB02 := Lib.hid (hkw2.blk (by simp) HB0.out)
  have HB12 := Lib.hid (hkw2.blk (by simp) HB1.out)
  have ⟨L02, C02, F02⟩ := HB02.out
  clear C01 F01 hm hpe hwf
  go_upto_region 6 with fail
  clear C02 F02
  refine wp_region_E 6 (fun w' => SX0 w2 w') (by kernel_rfl) (by (repeat' first | (with_reducible assumption) | (with_reducible exact SX0.init _) | (with_reducible exact SX0.refl _) | (with_reducible refine SX0.alloc ?_ _) | (with_reducible refine SX0.call ?_ (by assumption)) | (with_reducible refine SX0.set ?_ _ _ _ ?_) | (with_reducible refine SX0.drew ?_) | (simp; done) | omega | (simp; omega))) (fun hHeld => ?_)
  refine WE_take 0 (v := ?_) rfl (by kernel_rfl) (fun _ _ _ h => h) (Or.inl ⟨by rfl, ?_⟩) (by assumption) ?_; rotate_left; (· intro w9 hSw; (try dsimp only at hSw); go_simp; try with_reducible rfl); (try simp only [Act.put, List.setIfInBounds_toArray, List.set_cons_zero, List.set_cons_succ])
  refine WE_take 2 (v := ?_) rfl (by kernel_rfl) (fun _ _ _ h => h) (Or.inl ⟨by rfl, ?_⟩) (by assumption) ?_; rotate_left; (· intro w9 hSw; (try dsimp only at hSw); go_simp; try with_reducible rfl); (try simp only [Act.put, List.setIfInBounds_toArray, List.set_cons_zero, List.set_cons_succ])
  refine WE_R [1, 3, 4, 5] (fun j v w t => match j with | 1 => ∃ g, v = .slice (some ⟨g, 0, none⟩) kn.n1 kn.n1 ∧ ObjT w t g (.cells MB 4 (0, 0)) 1 ∧ w2.heap.size ≤ g | 3 => ∃ g, v = .slice (some ⟨g, 0, none⟩) kn.n1 kn.n1 ∧ ObjT w t g (.cells MR 66 (0, 0)) 2 ∧ w2.heap.size ≤ g | 4 => ∃ g g', v = .agg #[.slice (some ⟨g, 0, none⟩) kn.n1 kn.n1, .slice (some ⟨g', 0, none⟩) kn.n1 kn.n1] ∧ (ObjT w t g (.cells MB 4 (0, 0)) 1 ∧ w2.heap.size ≤ g) ∧ (ObjT w t g' (.cells MR 66 (0, 0)) 2 ∧ w2.heap.size ≤ g') | 5 => ∃ g, v = .pointer (some ⟨g, 0, none⟩) ∧ ObjT w t g (.cells #[.slice none 0 0, .slice none 0 0] 49 (0, 0)) 3 ∧ w2.heap.size ≤ g | _ => False) rfl (by kernel_rfl) (fun vs => by simp only [putU, dstOf, Option.bind, List.getElem?_cons_zero, List.getElem?_cons_succ, Act.put, List.setIfInBounds_toArray, List.set_cons_zero, List.set_cons_succ]; rfl) ?_ ?_ ?_ ?_
  · intro j hj
    simp only [List.mem_cons, List.not_mem_nil, or_false] at hj
    rcases hj with rfl | rfl | rfl | rfl
    all_goals (intro v w t w' t' h hg; revert h; (repeat' first | (with_reducible exact id) | (exact fun h => BlkT.grow h hg) | (exact fun h => ObjT.grow h hg) | (exact fun h => Pcs.grow h hg) | (exact fun h => hg.1.blk (by simp) h) | (exact fun h => Nat.lt_of_lt_of_le h hg.1.size) | (refine Exists.imp (fun _ => ?_)) | (refine And.imp ?_ ?_)))
  · intro w9 t9 hg9; (have hHeld9 := keptTrans hHeld.1 hg9.1); exact SX0.of hHeld9
  · refine ⟨?_, ?_, ?_, ?_, trivial⟩
    · refine ⟨_, _, rfl, [], by kernel_rfl, fun vs w t hg hyp K hK => ?_⟩
      (try dsimp only)
      have hHg := keptTrans hHeld.1 hg.1
      have hHs := SX0.of hHg
      go_simp
      refine hK.out ?_ _ _ (Go.Df.mark t w.heap.size 1) ?_ ?_ ?_
      rotate_left
      · simp only [Act.put, List.setIfInBounds_toArray, List.set_cons_zero, List.set_cons_succ]; rfl
      · exact Grow.mark ((Kept.refl _ _).alloc _) (Nat.le_refl _)
      · exact ⟨_, rfl, ObjT.new _ _ _ _, hHg.size⟩
    · refine ⟨_, _, rfl, [], by kernel_rfl, fun vs w t hg hyp K hK => ?_⟩
      (try dsimp only)
      have hHg := keptTrans hHeld.1 hg.1
      have hHs := SX0.of hHg
      go_simp
      refine hK.out ?_ _ _ (Go.Df.mark t w.heap.size 2) ?_ ?_ ?_
      rotate_left
      · simp only [Act.put, List.setIfInBounds_toArray, List.set_cons_zero, List.set_cons_succ]; rfl
      · exact Grow.mark ((Kept.refl _ _).alloc _) (Nat.le_refl _)
      · exact ⟨_, rfl, ObjT.new _ _ _ _, hHg.size⟩
    · refine ⟨_, _, rfl, [1, 3], by kernel_rfl, fun vs w t hg hyp K hK => ?_⟩
      (try dsimp only)
      dsimp only [HypsR] at hyp
      obtain ⟨⟨g, hx1, h1⟩, ⟨g', hx3, h3⟩, -⟩ := hyp
      have hHg := keptTrans hHeld.1 hg.1
      have hHs := SX0.of hHg
      go_simp
      refine hK.out ?_ _ _ t ?_ ?_ ?_
      rotate_left
      · simp only [Act.put, List.setIfInBounds_toArray, List.set_cons_zero, List.set_cons_succ, hx1, hx3]; rfl
      · exact Grow.refl _ _
      · exact ⟨_, _, rfl, h1, h3⟩
    · refine ⟨_, _, rfl, [], by kernel_rfl, fun vs w t hg hyp K hK => ?_⟩
      (try dsimp only)
      have hHg := keptTrans hHeld.1 hg.1
      have hHs := SX0.of hHg
      go_simp
      refine hK.out ?_ _ _ (Go.Df.mark t w.heap.size 3) ?_ ?_ ?_
      rotate_left
      · simp only [Act.put, List.setIfInBounds_toArray, List.set_cons_zero, List.set_cons_succ]; rfl
      · exact Grow.mark ((Kept.refl _ _).alloc _) (Nat.le_refl _)
      · exact ⟨_, rfl, ObjT.new _ _ _ _, hHg.size⟩
  intro vs wz tz hgz hyp K hK
  (try dsimp only)
  dsimp only [HypsR] at hyp
  generalize vs 1 = x1 at hyp ⊢
  generalize vs 3 = x3 at hyp ⊢
  generalize vs 4 = x4 at hyp ⊢
  generalize vs 5 = x5 at hyp ⊢
  obtain ⟨-, -, ⟨gr, gf, rfl, BR, BF⟩, ⟨g7, rfl, BG⟩, -⟩ := hyp
  have hHz := keptTrans hHeld.1 hgz.1
  clear hHeld
  have ⟨LG, CG, FG⟩ : Blk wz g7 [.slice none 0 0, .slice none 0 0] := blk_of_obj BG.1.heap
  go_simp
  refine hK.out _ _ ?_
  clear hK K
  have hne7 : gr ≠ g7 ∧ gf ≠ g7 ∧ gr ≠ gf := ⟨BR.1.ne BG.1 (by decide), BF.1.ne BG.1 (by decide), BR.1.ne BF.1 (by decide)⟩
  refine then_named (fun V => Blk V g7 [.slice (some ⟨gr, 0, none⟩) kn.n1 kn.n1, .slice (some ⟨gf, 0, none⟩) kn.n1 kn.n1] ∧ V.heap[gr]? = some (.cells MB 4 (0, 0)) ∧ V.heap[gf]? = some (.cells MR 66 (0, 0)) ∧ Kept [] w2 V) ⟨?_, ?_, ?_, ?_⟩ ?_
  · exact ((blk_of_obj BG.1.heap : Blk wz g7 [.slice none 0 0, .slice none 0 0]).set 0 _).set 1 _
  · exact (RowKit.Below.heap_setCell _ _ _ _ hne7.1).trans ((RowKit.Below.heap_setCell _ _ _ _ hne7.1).trans BR.1.heap)
  · exact (RowKit.Below.heap_setCell _ _ _ _ hne7.2.1).trans ((RowKit.Below.heap_setCell _ _ _ _ hne7.2.1).trans BF.1.heap)
  · exact (hHz.set g7 0 _ (Or.inr BG.2)).set g7 1 _ (Or.inr BG.2)
  rintro V ⟨BV7, HR0, HF0, hkV⟩
  have hgr2 : w2.heap.size ≤ gr := BR.2
  have hgf2 : w2.heap.size ≤ gf := BF.2
  have hg72 : w2.heap.size ≤ g7 := BG.2
  have hne7' := hne7
  have hbV : Hid (Below w2.heap.size w2 V) := Lib.hid hkV.toBelow
  have HB7 := Lib.hid BV7
  have hgfV : gf < V.heap.size := (Array.getElem?_eq_some_iff.1 HF0).1
  have SA0 : Hid (SolA p V gr kn.n1 0) := Lib.hid ⟨(Array.getElem?_eq_some_iff.1 HR0).1, fun x hx => by have h9 := rep_at (v := Value.bool false) hx; rw [HMB.out] at h9; simpa [World.cell?, HR0] using h9, fun x => by simp [World.frozen?, HR0]⟩
  have SB0 : Hid (SolB p V.heap.size V gf kn.n1 0) := Lib.hid ⟨hgfV, hgfV, fun x hx => by
    have h9 := rep_at (v := Value.slice none 0 0) hx
    rw [HMR.out] at h9
    exact ⟨none, 0, 0, by simpa [World.cell?, HF0] using h9, by simpa using Ints.empty V none, by omega, fun a ha => by cases ha⟩, fun x => by simp [World.frozen?, HF0]⟩
  have hbase : ∃ base, V.heap.size = base := ⟨_, rfl⟩
  obtain ⟨base, hbase⟩ := hbase
  rw [hbase] at SB0
  have HBA := Lib.hid hbase
  have hgrb : gr < base := by have := (Array.getElem?_eq_some_iff.1 HR0).1; omega
  have hgfb : gf < base := by omega
  have h2b : w2.heap.size ≤ base := by have := hkV.size; omega
  have hb12 : b1 < w2.heap.size := HB12.out.1
  have HN1 : Hid (p.ns.length = kn.n1) := Lib.hid (hin.nd.1)
  have HHD := HM.out.held
  clear BV7 HR0 HF0 hkV BR BG BF hmkB hmkR hHz hgz hne7 hbase hin
  go_wp2_with fail
  go_loopw [30] (fun s30 wr => ∃ (i : Nat), i ≤ kn.n1 ∧ s30 = .int .i64 i ∧ Hid (Below w2.heap.size w2 wr) ∧ Hid (Blk wr g7 [.slice (some ⟨gr, 0, none⟩) kn.n1 kn.n1, .slice (some ⟨gf, 0, none⟩) kn.n1 kn.n1]) ∧ Hid (SolA p wr gr kn.n1 i) ∧ Hid (SolB p base wr gf kn.n1 i) ∧ base ≤ wr.heap.size) (fun s30 _ => kn.n1 - (intOf s30).toNat)
  case atStart => exact ⟨0, Nat.zero_le _, rfl, hbV, HB7, SA0, SB0, Nat.le_of_eq HBA.out.symm⟩
  case round =>
  clear SA0 SB0 HB7 hbV
  obtain ⟨i, hi, rfl, hbr, HB7, SA, SB, hbz⟩ := hrel
  have hkr2 : Kept [] w2 wr := (Kept.refl _ _).call hbr.out
  have MR := Lib.hid (HM.out.call hbr.out)
  by_cases hlt : i < kn.n1
  case neg =>
    obtain rfl : i = kn.n1 := by omega
    have ⟨L7, C7, F7⟩ := HB7.out
    have ⟨L1r, C1r, F1r⟩ := hkr2.blk (by simp) HB12.out
    have hbw : Below w.heap.size w wr := HK02.out.toBelow.trans (hbr.out.mono HK02.out.size)
    have hne1 : b1 ≠ g7 := by omega
    go_wp2_with fail
    refine retNamed (fun X => Blk X b1 [.slice (some ⟨gr, 0, none⟩) kn.n1 kn.n1, .slice (some ⟨gf, 0, none⟩) kn.n1 kn.n1] ∧ Kept [b1] wr X) ⟨((hkr2.blk (by simp) HB12.out).set 0 _).set 1 _, ((Kept.refl [b1] wr).set b1 0 _ (.inl (by simp))).set b1 1 _ (.inl (by simp))⟩ ?_
    rintro X ⟨BX, hkX⟩
    have ⟨LX, CX, FX⟩ := BX
    have SX := SA.out.kept hkX (by simp; omega)
    have TX := SB.out.kept hkX (by simp; omega) (by simp; omega)
    refine bodyPost_ret (by simp [results, Tryz.results29, go_sem, CX]; try rfl) rfl ?_
    refine ⟨_, _, kn.n1, rfl, HN1.out.symm, ⟨by simp, fun _ => ⟨gr, 0, rfl, SX.1, fun x hx => ?_⟩⟩, ⟨by simp, fun _ => ⟨gf, 0, rfl, TX.2.1, fun x hx => ?_⟩⟩, hkX.below hbw hbw.size (by simpa using G1)⟩
    · rw [Nat.zero_add, SX.2.1 x hx, decide_eq_true hx]
      simp [gbl, hx]
    · obtain ⟨Ax, mx, cx, h1, h2, h3, -⟩ := TX.2.2.1 x hx
      rw [if_pos hx] at h2
      refine ⟨Ax, mx, cx, by rw [Nat.zero_add]; exact h1, ?_, h3⟩
      have : gil ((List.range kn.n1).map (solF p)) x = solF p x := by simp [gil, hx]
      rw [this]
      exact h2
  have ⟨L7, C7, F7⟩ := HB7.out
  have hi1 : (i : Int) < (kn.n1 : Int) := by omega
  have car := SA.out.2.1 i hlt
  have far := SA.out.2.2 i
  have lar := SA.out.1
  go_upto_region 10 with fail
  refine wp_region_E 7 (fun w' => SX0 wr w') (by kernel_rfl) (by (repeat' first | (with_reducible assumption) | (with_reducible exact SX0.init _) | (with_reducible exact SX0.refl _) | (with_reducible refine SX0.alloc ?_ _) | (with_reducible refine SX0.call ?_ (by assumption)) | (with_reducible refine SX0.set ?_ _ _ _ ?_) | (with_reducible refine SX0.drew ?_) | (simp; done) | omega | (simp; omega))) (fun hHeld => ?_)
  refine WE_take 0 (v := ?_) rfl (by kernel_rfl) (fun _ _ _ h => h) (Or.inl ⟨by rfl, ?_⟩) (by assumption) ?_; rotate_left; (· intro w9 hSw; (try dsimp only at hSw); go_simp; try with_reducible rfl); (try simp only [Act.put, List.setIfInBounds_toArray, List.set_cons_zero, List.set_cons_succ])
  refine WE_take 1 (v := ?_) rfl (by kernel_rfl) (fun _ _ _ h => h) (Or.inl ⟨by rfl, ?_⟩) (by assumption) ?_; rotate_left; (· intro w9 hSw; (try dsimp only at hSw); go_simp; try with_reducible rfl); (try simp only [Act.put, List.setIfInBounds_toArray, List.set_cons_zero, List.set_cons_succ])
  refine WE_take 2 (v := ?_) rfl (by kernel_rfl) (fun _ _ _ h => h) (Or.inl ⟨by rfl, ?_⟩) (by assumption) ?_; rotate_left; (· intro w9 hSw; (try dsimp only at hSw); go_simp; try with_reducible rfl); (try simp only [Act.put, List.setIfInBounds_toArray, List.set_cons_zero, List.set_cons_succ])
  refine WE_take 3 (v := ?_) rfl (by kernel_rfl) (fun _ _ _ h => h) (Or.inl ⟨by rfl, ?_⟩) (by assumption) ?_; rotate_left; (· intro w9 hSw; (try dsimp only at hSw); go_simp; try with_reducible rfl); (try simp only [Act.put, List.setIfInBounds_toArray, List.set_cons_zero, List.set_cons_succ])
  refine WE_take 4 (v := ?_) rfl (by kernel_rfl) (fun _ _ _ h => h) (Or.inl ⟨by rfl, ?_⟩) (by assumption) ?_; rotate_left; (· intro w9 hSw; (try dsimp only at hSw); go_simp; try with_reducible rfl); (try simp only [Act.put, List.setIfInBounds_toArray, List.set_cons_zero, List.set_cons_succ])
  refine WE_step 5 rfl (by kernel_rfl) (fun K hK => ?_)
  go_simp
  (go_at_call 32; refine (reached_any _ i (MR.out.call ((Kept.refl [] _).drew.toBelow)) hlt).mono ?_; rintro e w3 ⟨rfl, hb3⟩)
  (try go_wp2_with fail)
  refine hK.out _ _ ?_ (fun hHeld => ?_)
  · (repeat' first | (with_reducible assumption) | (with_reducible exact SX0.init _) | (with_reducible exact SX0.refl _) | (with_reducible refine SX0.alloc ?_ _) | (with_reducible refine SX0.call ?_ (by assumption)) | (with_reducible refine SX0.set ?_ _ _ _ ?_) | (with_reducible refine SX0.drew ?_) | (simp; done) | omega | (simp; omega))
  clear hK K
  try simp only [Act.put, List.setIfInBounds_toArray, List.set_cons_zero, List.set_cons_succ]
  refine WE_take 6 (v := ?_) rfl (by kernel_rfl) (fun _ _ _ h => h) (Or.inl ⟨by rfl, ?_⟩) (by assumption) ?_; rotate_left; (· intro w9 hSw; (try dsimp only at hSw); go_simp; try with_reducible rfl); (try simp only [Act.put, List.setIfInBounds_toArray, List.set_cons_zero, List.set_cons_succ])
  refine WE_last rfl (by kernel_rfl) (fun K hK => ?_)
  go_simp
  refine hK.out _ _ ?_
  clear hK K
  have hk3 : Kept [] wr w3 := hHeld.1
  have e9 : s.h i 0 0 = solR p i := solR_eq (HPE.out 0 i 0)
  rw [e9]
  have hb3' : Below w2.heap.size w2 w3 := hk3.below hbr.out hbr.out.size (by simp)
  have hs3 : wr.heap.size ≤ w3.heap.size := hk3.size
  refine act_named (fun Z => SolA p Z gr kn.n1 (i + 1) ∧ SolB p base Z gf kn.n1 i ∧ Below w2.heap.size w2 Z ∧ Blk Z g7 [.slice (some ⟨gr, 0, none⟩) kn.n1 kn.n1, .slice (some ⟨gf, 0, none⟩) kn.n1 kn.n1] ∧ base ≤ Z.heap.size) ⟨(SA.out.kept hk3 (by simp)).set hlt, (SB.out.kept hk3 (by simp) (by simp)).kept ((Kept.refl [gr] _).set gr i _ (.inl (by simp))) (by simpa using hne7'.2.2.symm) (by simpa using hgrb), hb3'.setCell (show w2.heap.size ≤ gr from hgr2) _, ((Kept.refl [gr] _).set gr i _ (.inl (by simp))).blk (by simpa using hne7'.1.symm) (hk3.blk (by simp) HB7.out), by simp [World.setCell]; omega⟩ ?_
  rintro Z ⟨SAZ, SBZ, hbZ, BZ, hzZ⟩
  have SA1 := Lib.hid SAZ
  have SB1 := Lib.hid SBZ
  have HBZ := Lib.hid hbZ
  have HB7Z := Lib.hid BZ
  have MZ := Lib.hid (HM.out.call hbZ)
  have BGZ := MZ.out.box
  unfold sbox at BGZ
  have ⟨LGZ, CGZ, FGZ⟩ := BGZ
  have chz := MZ.out.held.cell hlt
  have lhz : kn.hr < Z.heap.size := (MZ.out.og _ MZ.out.oh).2
  obtain ⟨mm, hmm⟩ : ∃ mm, G.hm i = mm := ⟨_, rfl⟩
  rw [hmm] at chz
  have HMM := Lib.hid hmm
  obtain ⟨r, er⟩ : ∃ r, Z.heap.size = r := ⟨_, rfl⟩
  have HER := Lib.hid er
  clear C7 F7 L7 car far lar SAZ SBZ hbZ BZ hmm hk3 hb3' hs3 SA SB HB7 hbr MR hHeld e9 BGZ er hkr2
  go_upto_region 13 with (at_range; refine wpList_range_mapO (P := Tryz.prog) (k := 3) (z := .slice none 0 0) (n := G.hc i) (f := G.hv i) rfl _ _ rfl 104 Tryz.lawInt Tryz.mapIB mm rfl (fun b hb => MZ.out.held.is i b hlt (HMM.out.trans hb)) (fun hn key => MZ.out.held.no i hlt (HMM.out.trans hn) key) ?_; intro w4 left cnt hrg hleft hk4 hs4)
  rw [HER.out] at hrg ⊢
  have HRG := Lib.hid hrg
  have HK4 := Lib.hid hk4
  have hsm : ∀ a y, s.h i a y = true → (a : Int) < 1025 := fun a y h => by
    have h1 := (HWF.out.rng _ _ _ h).2.1
    have h2 := HO.out.f2
    omega
  have HSM := Lib.hid hsm
  have HU0 : Hid (UnL (s.h i) [] left) := Lib.hid (UnL.init fun a y h => by
    cases hh : s.h i a y with
    | false => rfl
    | true =>
      have h1 := HSM.out a y hh
      have h2 := hleft (.int .i64 (a : Int)) _ (Tryz.keyInt (a : Int) (WalkArith.wf_i64 (by omega))) h
      obtain ⟨A', n', c', l', e1, e2, -, -, -, e3⟩ := MZ.out.hbits i a hlt
      rw [h2] at e1
      injection e1 with e4 e5 e6
      subst e5
      have h3 : l' = [] := List.eq_nil_of_length_eq_zero e2.1
      subst h3
      rw [← e3, hasB_nil] at hh
      cases hh)
  have hz4 : Below Z.heap.size Z w4 := hk4.toBelow
  have HZ4 := Lib.hid hz4
  clear hleft hsm hrg hk4 hz4 hs4 CGZ FGZ LGZ chz lhz
  go_wp2_with fail
  go_frame
  go_loopw [9] (fun s9 wq => ∃ (left : Lit → Bool) (cnt : Nat) (A : Option Addr) (m c : Nat) (l : List Nat), s9 = .slice A m c ∧ Hid (Bts wq A m l) ∧ m ≤ 1024 ∧ Hid (A = none → m = 0) ∧ Hid (∀ a, A = some a → a.block ≠ r) ∧ Hid (UnL (s.h i) l left) ∧ Hid (RgO Tryz.prog 3 (.slice none 0 0) wq mm r (G.hc i) (G.hv i) left cnt) ∧ Hid (Below Z.heap.size Z wq)) (fun _ wq => leftO wq mm r)
  case atStart => exact ⟨left, cnt, none, 0, 0, [], rfl, Lib.hid (Bts.nil _), by omega, Lib.hid (fun _ => rfl), Lib.hid (fun a ha => by cases ha), HU0, HRG, HZ4⟩
  case round =>
  clear HU0 HRG HZ4 HK4
  rename World => wq
  obtain ⟨left, cnt, A, m, c, l, rfl, HBT, hm, HA, HAr, HU, HRG, HZQ⟩ := hrel
  have hrq : r < wq.heap.size := RgO.lt HRG.out
  have MQ := Lib.hid (MZ.out.call HZQ.out)
  go_upto_region 14 with (at_next; refine wpList_next_mapO rfl _ rfl .i64 Tryz.lawInt Tryz.underlying3 mm rfl HRG.out ?_ ?_)
  · intro hc0 hl0
    have HL0 : Hid (∀ y, hasB l y = true ↔ ∃ a, s.h i a y = true) := Lib.hid (fun y => by rw [HU.out y]; exact ⟨fun ⟨a, _, h⟩ => ⟨a, h⟩, fun ⟨a, h⟩ => ⟨a, hl0 _, h⟩⟩)
    have ⟨L7, C7, F7⟩ := HB7Z.out.later HZQ.out
    have hkq : Kept [] Z wq := (Kept.refl _ _).call HZQ.out
    have SBQ := Lib.hid (SB1.out.kept hkq (by simp) (by simp))
    have SAQ := Lib.hid (SA1.out.kept hkq (by simp))
    have lfq := SBQ.out.2.1
    have ffq := SBQ.out.2.2.2 i
    obtain ⟨Af, mf, cf, hcf, -, -, -⟩ := SBQ.out.2.2.1 i hlt
    have hZq : base ≤ wq.heap.size := Nat.le_trans hzZ hkq.size
    clear hl0 hkq
    go_upto_region 16 with fail
    refine wp_region_E 7 (fun w' => SX0 wq w') (by kernel_rfl) (by (repeat' first | (with_reducible assumption) | (with_reducible exact SX0.init _) | (with_reducible exact SX0.refl _) | (with_reducible refine SX0.alloc ?_ _) | (with_reducible refine SX0.call ?_ (by assumption)) | (with_reducible refine SX0.set ?_ _ _ _ ?_) | (with_reducible refine SX0.drew ?_) | (simp; done) | omega | (simp; omega))) (fun hHeld => ?_)
    refine WE_take 0 (v := ?_) rfl (by kernel_rfl) (fun _ _ _ h => h) (Or.inl ⟨by rfl, ?_⟩) (by assumption) ?_; rotate_left; (· intro w9 hSw; (try dsimp only at hSw); go_simp; try with_reducible rfl); (try simp only [Act.put, List.setIfInBounds_toArray, List.set_cons_zero, List.set_cons_succ])
    refine WE_take 1 (v := ?_) rfl (by kernel_rfl) (fun _ _ _ h => h) (Or.inl ⟨by rfl, ?_⟩) (by assumption) ?_; rotate_left; (· intro w9 hSw; (try dsimp only at hSw); go_simp; try with_reducible rfl); (try simp only [Act.put, List.setIfInBounds_toArray, List.set_cons_zero, List.set_cons_succ])
    refine WE_take 2 (v := ?_) rfl (by kernel_rfl) (fun _ _ _ h => h) (Or.inl ⟨by rfl, ?_⟩) (by assumption) ?_; rotate_left; (· intro w9 hSw; (try dsimp only at hSw); go_simp; try with_reducible rfl); (try simp only [Act.put, List.setIfInBounds_toArray, List.set_cons_zero, List.set_cons_succ])
    refine WE_take 3 (v := ?_) rfl (by kernel_rfl) (fun _ _ _ h => h) (Or.inl ⟨by rfl, ?_⟩) (by assumption) ?_; rotate_left; (· intro w9 hSw; (try dsimp only at hSw); go_simp; try with_reducible rfl); (try simp only [Act.put, List.setIfInBounds_toArray, List.set_cons_zero, List.set_cons_succ])
    refine WE_step 4 rfl (by kernel_rfl) (fun K hK => ?_)
    go_simp
    (first | (go_at_call 67; refine (without_any A m c l _ (HBT.out.kept ((Kept.refl [] _).drew)) hm HA.out).mono ?_; rintro e w6 ⟨A6, n6, l6, rfl, hbt6, hh6, hn6, hfr6, hA6, hb6⟩; have HH6 := Lib.hid hh6; have HBT6 := Lib.hid hbt6; clear hh6 hbt6 hfr6 hA6) | (go_at_call 61; refine (blist_any A6 n6 n6 l6 _ HBT6.out hn6).mono ?_; rintro e w7 ⟨A7, n7, c7, rfl, hs7, hfr7, hb7⟩; have HS7 := Lib.hid hs7; have HFR7 := Lib.hid hfr7; clear hs7 hfr7))
    (try go_wp2_with fail)
    refine hK.out _ _ ?_ (fun hHeld => ?_)
    · (repeat' first | (with_reducible assumption) | (with_reducible exact SX0.init _) | (with_reducible exact SX0.refl _) | (with_reducible refine SX0.alloc ?_ _) | (with_reducible refine SX0.call ?_ (by assumption)) | (with_reducible refine SX0.set ?_ _ _ _ ?_) | (with_reducible refine SX0.drew ?_) | (simp; done) | omega | (simp; omega))
    clear hK K
    try simp only [Act.put, List.setIfInBounds_toArray, List.set_cons_zero, List.set_cons_succ]
    refine WE_step 5 rfl (by kernel_rfl) (fun K hK => ?_)
    go_simp
    (first | (go_at_call 67; refine (without_any A m c l _ (HBT.out.kept ((Kept.refl [] _).drew)) hm HA.out).mono ?_; rintro e w6 ⟨A6, n6, l6, rfl, hbt6, hh6, hn6, hfr6, hA6, hb6⟩; have HH6 := Lib.hid hh6; have HBT6 := Lib.hid hbt6; clear hh6 hbt6 hfr6 hA6) | (go_at_call 61; refine (blist_any A6 n6 n6 l6 _ HBT6.out hn6).mono ?_; rintro e w7 ⟨A7, n7, c7, rfl, hs7, hfr7, hb7⟩; have HS7 := Lib.hid hs7; have HFR7 := Lib.hid hfr7; clear hs7 hfr7))
    (try go_wp2_with fail)
    refine hK.out _ _ ?_ (fun hHeld => ?_)
    · (repeat' first | (with_reducible assumption) | (with_reducible exact SX0.init _) | (with_reducible exact SX0.refl _) | (with_reducible refine SX0.alloc ?_ _) | (with_reducible refine SX0.call ?_ (by assumption)) | (with_reducible refine SX0.set ?_ _ _ _ ?_) | (with_reducible refine SX0.drew ?_) | (simp; done) | omega | (simp; omega))
    clear hK K
    try simp only [Act.put, List.setIfInBounds_toArray, List.set_cons_zero, List.set_cons_succ]
    refine WE_take 6 (v := ?_) rfl (by kernel_rfl) (fun _ _ _ h => h) (Or.inl ⟨by rfl, ?_⟩) (by assumption) ?_; rotate_left; (· intro w9 hSw; (try dsimp only at hSw); go_simp; try with_reducible rfl); (try simp only [Act.put, List.setIfInBounds_toArray, List.set_cons_zero, List.set_cons_succ])
    refine WE_last rfl (by kernel_rfl) (fun K hK => ?_)
    go_simp
    refine hK.out _ _ ?_
    clear hK K
    have hk7 : Kept [] wq w7 := hHeld.1
    have hbr7 : Below Z.heap.size Z w7 := HZQ.out.trans (hk7.toBelow.mono HZQ.out.size)
    have hkz7 : Kept [] Z w7 := (Kept.refl _ _).call hbr7
    have hks : Kept [gf] w7 (w7.setCell ⟨gf, i, none⟩ (.slice A7 n7 c7)) := (Kept.refl [gf] w7).set gf i _ (.inl (by simp))
    have e7 : ofNats (elemsB l6 (n6 * 64)) = solF p i := by
      rw [← HBT6.out.1]
      refine solF_eq HO.out fun y => ?_
      rw [HH6.out y, Bool.and_eq_true, HL0.out y]
      simp only [bne_iff_ne, ne_eq]
      exact ⟨fun ⟨⟨a, h⟩, h2⟩ => ⟨⟨a, (HPE.out a i y).1 h⟩, h2⟩, fun ⟨⟨a, h⟩, h2⟩ => ⟨⟨a, (HPE.out a i y).2 h⟩, h2⟩⟩
    have h7 : Ints w7 A7 n7 (solF p i) := by rw [← e7]; exact HS7.out.1
    have h7n : n7 ≤ 9223372036854775807 := by have := HS7.out.2.1; have := HS7.out.2.2.1; omega
    have h7b : ∀ a, A7 = some a → base ≤ a.block := fun a ha => by have h1 := (HFR7.out a ha).1; have h2 := hb6.size; have h3 : wq.heap.size ≤ wq.drew.heap.size := Nat.le_refl _; omega
    have hb27 : Below w2.heap.size w2 w7 := HBZ.out.trans (hbr7.mono HBZ.out.size)
    refine act_named (fun Y => Below w2.heap.size w2 Y ∧ Blk Y g7 [.slice (some ⟨gr, 0, none⟩) kn.n1 kn.n1, .slice (some ⟨gf, 0, none⟩) kn.n1 kn.n1] ∧ SolA p Y gr kn.n1 (i + 1) ∧ SolB p base Y gf kn.n1 (i + 1) ∧ base ≤ Y.heap.size) ⟨hb27.setCell (show w2.heap.size ≤ gf from hgf2) _, hks.blk (by simpa using hne7'.2.1.symm) (hkz7.blk (by simp) HB7Z.out), (SA1.out.kept hkz7 (by simp)).kept hks (by simpa using hne7'.2.2), (SB1.out.kept hkz7 (by simp) (by simp)).set hlt h7 h7n h7b, by simp [World.setCell]; have := hk7.size; omega⟩ ?_
    rintro Y ⟨hbY, BY, SAY, SBY, hzY⟩
    go_wp2_with fail
    exact ⟨⟨i + 1, by omega, by go_num, Lib.hid hbY, Lib.hid BY, Lib.hid SAY, Lib.hid SBY, hzY⟩, by simp [intOf]; omega⟩
  · intro x w5 cnt5 hwx hlx hrg5 hlt5 hk5 hs5 hen
    have hb5 : Below Z.heap.size Z w5 := Kept.below HZQ.out HZQ.out.size (fun y hy => by have h1 := List.mem_singleton.1 hy; have h2 := HER.out; omega) hk5
    have M5 := Lib.hid (MZ.out.call hb5)
    obtain ⟨A', n', c', l', hfv, hbt', hn', hstep⟩ : ∃ (A' : Option Addr) (n' c' : Nat) (l' : List Nat), G.hv i (.int .i64 x) = .slice A' n' c' ∧ Bts w5 A' n' l' ∧ n' ≤ 1024 ∧ ∀ l2, (∀ y, hasB l2 y = (hasB l y || hasB l' y)) → UnL (s.h i) l2 (fun y => left y && !y.sameKey (.int .i64 x)) := by
      by_cases hx0 : x < 0
      · refine ⟨none, 0, 0, [], M5.out.hneg i x hlt hx0, Bts.nil _, by omega, fun l2 h2 => HU.out.neg hx0 (fun y => by rw [h2 y, hasB_nil, Bool.or_false])⟩
      · obtain ⟨a, rfl⟩ := Int.eq_ofNat_of_zero_le (show 0 ≤ x by omega)
        obtain ⟨A', n', c', l', e1, e2, e3, -, -, e4⟩ := M5.out.hbits i a hlt
        exact ⟨A', n', c', l', e1, e2, e3, fun l2 h2 => HU.out.step (fun y => by rw [h2 y, e4 y])⟩
    rw [hfv] at hen ⊢
    have HB5 := Lib.hid hbt'
    have HST := Lib.hid hstep
    have HBQ5 : Hid (Bts w5 A m l) := Lib.hid (HBT.out.keptX hk5 (fun _ a ha => by simpa using HAr.out a ha))
    have HRG5 := Lib.hid hrg5
    have HLT5 := Lib.hid hlt5
    have HK5 := Lib.hid hb5
    clear hstep hbt' hrg5 hk5 hlt5 hlx hwx hb5 hfv hs5
    go_wp2_with (go_at_call 66; refine (union_any A A' m c n' c' l l' _ HBQ5.out HB5.out hm hn').mono ?_; rintro e w6 ⟨A6, n6, l6, rfl, hbt6, hh6, hn6, hfr6, hA6, hb6⟩)
    have hrg6 := HRG5.out.kept ((Kept.refl [] w5).call hb6) (by simp) (by simp)
    exact ⟨⟨_, cnt5, A6, n6, n6, l6, rfl, Lib.hid hbt6, hn6, Lib.hid hA6, Lib.hid (fun a ha => by have h1 := (hfr6 a ha).1; have h2 := RgO.lt HRG5.out; omega), Lib.hid (HST.out l6 hh6), Lib.hid hrg6, Lib.hid (HK5.out.trans (hb6.mono HK5.out.size))⟩, by rw [hrg6.left_eq, HRG.out.left_eq]; exact HLT5.out⟩
end Go.Proofs.YtmbihjlflcjlnaaGreat
