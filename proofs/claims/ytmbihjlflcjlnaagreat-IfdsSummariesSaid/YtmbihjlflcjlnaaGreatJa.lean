/- The contracts of sets as words: word, Has, valid, normal, With. -/
import Derived.Test.YtmbihjlflcjlnaaGreatIn
import Derived.Test.YtmbihjlflcjlnaaGreatSa
import Derived.Laws.CopyOwn
namespace Go.Df
open Go.RowKit
/-- Block g holds n words that may be written. -/
def Wrd (w : World) (g n : Nat) (l : List Nat) : Prop := g < w.heap.size ∧ l.length = n ∧ (∀ i, gw l i < 18446744073709551616) ∧ (∀ i, i < n → w.cell? ⟨g, i, none⟩ = some (.int .u64 (gw l i))) ∧ ∀ i, w.frozen? ⟨g, i, none⟩ = false
theorem Wrd.bts {w : World} {g n : Nat} {l : List Nat} (h : Wrd w g n l) : Bts w (some ⟨g, 0, none⟩) n l :=
  ⟨h.2.1, h.2.2.1, fun _ => ⟨g, 0, rfl, h.1, fun i hi => by rw [Nat.zero_add]; exact h.2.2.2.1 i hi⟩⟩
theorem Wrd.set {w : World} {g n : Nat} {l : List Nat} (h : Wrd w g n l) {j v : Nat} (hv : v < 18446744073709551616) {l' : List Nat} (hl : l'.length = n) (h1 : ∀ i, i < n → gw l' i = if i = j then v else gw l i) : Wrd (w.setCell ⟨g, j, none⟩ (.int .u64 v)) g n l' := by
  refine ⟨by simpa [World.setCell] using h.1, hl, fun i => ?_, fun i hi => ?_, fun i => by simpa using h.2.2.2.2 i⟩
  · rcases Nat.lt_or_ge i n with hi | hi
    · rw [h1 i hi]; split
      · exact hv
      · exact h.2.2.1 i
    · rw [gw_ge (by omega)]; omega
  · rw [h1 i hi]
    by_cases e : i = j
    · subst e; rw [if_pos rfl]; exact set_same (h.2.2.2.1 i hi)
    · rw [if_neg e, set_other (.inr (fun h => e h.symm))]; exact h.2.2.2.1 i hi
/-- n words that are 0, the first of them as l says. -/
def padB (l : List Nat) (n : Nat) : List Nat := (List.range n).map (gw l)
theorem padB_len (l : List Nat) (n : Nat) : (padB l n).length = n := by simp [padB]
theorem gw_padB {l : List Nat} {n : Nat} (h : l.length ≤ n) (i : Nat) : gw (padB l n) i = gw l i := by
  rcases Nat.lt_or_ge i n with hi | hi
  · rw [gw_lt (by rw [padB_len]; exact hi)]; simp [padB]
  · rw [gw_ge (by rw [padB_len]; exact hi), gw_ge (by omega)]
theorem words_at {l : List Nat} {n : Nat} (_hl : l.length ≤ n) {i : Nat} (hi : i < n) :
    (splice (List.replicate n (Value.int .u64 0)) 0 (l.map fun (v : Nat) => Value.int .u64 (v : Int)))[i]? = some (.int .u64 (gw l i)) := by
  unfold splice
  rw [List.take_zero, List.nil_append]
  rcases Nat.lt_or_ge i l.length with h | h
  · rw [List.getElem?_append_left (by simpa using h), List.getElem?_map, List.getElem?_eq_getElem h, gw_lt h]; rfl
  · rw [List.getElem?_append_right (by simpa using h), gw_ge h]
    simp only [List.length_map, Nat.zero_add, List.getElem?_drop, List.getElem?_replicate]
    rw [if_pos (by omega)]; rfl
/-- A set comes back in words of its block g, without the words that are 0 at the end. -/
def GetNormal (w : World) (g n : Nat) (l : List Nat) (e : Ending) (w' : World) : Prop :=
  ∃ A n' l', e = .returned (.slice A n' n') ∧ Bts w' A n' l' ∧ (∀ x, hasB l' x = hasB l x) ∧ n' ≤ n ∧ (∀ a, A = some a → a.block = g) ∧ (A = none → n' = 0) ∧ w = w'
/-- A new set comes back. -/
def GetSet (w : World) (n : Nat) (f : Nat → Bool) (e : Ending) (w' : World) : Prop :=
  ∃ A n' l', e = .returned (.slice A n' n') ∧ Bts w' A n' l' ∧ (∀ x, hasB l' x = f x) ∧ n' ≤ n ∧ Fr w w' A ∧ (A = none → n' = 0) ∧ Below w.heap.size w w'
/-- A new set and no error come back. -/
def GetSet0 (w : World) (n : Nat) (f : Nat → Bool) (e : Ending) (w' : World) : Prop :=
  ∃ A n' l', e = .returned (.tuple #[.slice A n' n', .int .i64 0]) ∧ Bts w' A n' l' ∧ (∀ x, hasB l' x = f x) ∧ n' ≤ n ∧ Fr w w' A ∧ (A = none → n' = 0) ∧ Below w.heap.size w w'
theorem made_one (v : Value) (n : Nat) : madeCells #[v] n = (List.replicate n v).toArray := by
  apply Array.ext_getElem?
  intro j
  rcases Nat.lt_or_ge j n with h | h
  · simp [madeCells, h, Nat.mod_one]
  · simp [madeCells, h]
theorem words_src (w : World) {A : Option Addr} {n : Nat} {l : List Nat} (h : Bts w A n l) (_hA : A = none → n = 0) {g : Nat} {cs : Array Value} {t : TypeId} (hp : 0 < (l.map fun (v : Nat) => Value.int .u64 (v : Int)).length) :
    (some (⟨g, 0, none⟩ : Addr) = some ⟨g, 0, none⟩) ∧ ∃ ad, A = some ad ∧ ∀ j v, (l.map fun (v : Nat) => Value.int .u64 (v : Int))[j]? = some v → (w.alloc (.cells cs t)).cell? (ad.add j) = some v := by
  rw [List.length_map, h.1] at hp
  obtain ⟨b, o, rfl, hl, hc⟩ := h.2.2 hp
  refine ⟨rfl, _, rfl, fun j v hv => ?_⟩
  rw [add_lit]
  have hj : j < l.length := by
    rcases Nat.lt_or_ge j l.length with h1 | h1
    · exact h1
    · rw [List.getElem?_eq_none (by simpa using h1)] at hv; cases hv
  rw [((Kept.refl [] w).alloc _).cell b (o + j) hl (by simp), hc j (by rw [← h.1]; exact hj), ← hv, List.getElem?_map, List.getElem?_eq_getElem hj, gw_lt hj]
  rfl
theorem wrd_copied {w wc : World} {A : Option Addr} {g n m : Nat} {l : List Nat} {t : TypeId} (hc : wc.heap[g]? = some (.cells (splice (List.replicate m (Value.int .u64 0)) 0 (l.map fun (v : Nat) => Value.int .u64 (v : Int))).toArray t (0, 0))) (h : Bts w A n l) (hn : n ≤ m) : Wrd wc g m (padB l m) := by
  have hl : l.length ≤ m := by rw [h.1]; exact hn
  refine ⟨(Array.getElem?_eq_some_iff.1 hc).1, padB_len _ _, fun i => by rw [gw_padB hl]; exact h.2.1 i, fun i hi => ?_, fun i => by simp [World.frozen?, hc]⟩
  rw [gw_padB hl, ← words_at hl hi]
  simp [World.cell?, hc]
end Go.Df
namespace Go.Proofs.YtmbihjlflcjlnaaGreat
open Go.RowKit Go.Df
attribute [local go_sem ↓] Go.wp_at_zero Go.wp_at_succ
theorem u64_info : (Tryz.prog.info? 182).map (fun i => (i.zero, i.size, i.bytes)) = some (some (.int .u64 0), 1, 8) := by kernel_rfl

set_option maxHeartbeats 1000000 in
theorem word_any (A : Option Addr) (n c i : Nat) (l : List Nat) (w : World) (hb : Bts w A n l) (hi : i ≤ 1000000) :
    Calls Tryz.prog 114 #[.slice A n c, .int .i64 i] w fun e w' => e = .returned (.int .u64 (gw l i)) ∧ w = w' := by
  have HN := Lib.hid hb.1
  by_cases h : i < n
  · obtain ⟨b, o, rfl, hl, hc⟩ := hb.2.2 (by omega)
    have hcell := hc i h
    have h1 : (i : Int) < (n : Int) := by omega
    clear hc hb
    go_enter Tryz.func114, Tryz.ntmps114
    go_wp2
    go_ret
    exact ⟨rfl, rfl⟩
  · have h1 : ¬ (i : Int) < (n : Int) := by omega
    have HZ := Lib.hid (gw_ge (l := l) (i := i) (by have := hb.1; omega))
    clear hb
    go_enter Tryz.func114, Tryz.ntmps114
    go_wp2
    go_ret
    rw [HZ.out]
    exact ⟨rfl, rfl⟩

set_option maxHeartbeats 1000000 in
theorem bhas_any (A : Option Addr) (n c x : Nat) (l : List Nat) (w : World) (hb : Bts w A n l) (hx : x < 65536) :
    Calls Tryz.prog 68 #[.slice A n c, .int .i64 x] w fun e w' => e = .returned (.bool (hasB l x)) ∧ w = w' := by
  have HB := Lib.hid hb
  have hv := hb.2.1 (x / 64)
  have hbt := bit_test (gw l (x / 64)) (x % 64) hv
  have HT : Hid ((gw l (x / 64)).testBit (x % 64) = hasB l x) := rfl
  have h64 : x % 64 < 64 := Nat.mod_lt _ (by omega)
  clear hb
  go_enter Tryz.func68, Tryz.ntmps68
  go_wp2_with (go_at_call 114; refine (word_any _ _ _ (x / 64) l _ HB.out (by omega)).mono ?_; rintro e w1 ⟨rfl, rfl⟩)
  go_ret
  exact ⟨ret_bool (by first | exact HT.out | rfl | (rw [← HT.out]; first | exact hbt | simp_all)), rfl⟩

set_option maxHeartbeats 2000000 in
theorem normal_any (g n c : Nat) (l : List Nat) (w : World) (hb : Wrd w g n l) (hc : n ≤ c) (hc2 : c ≤ 1000000) :
    Calls Tryz.prog 115 #[.slice (some ⟨g, 0, none⟩) n c] w (GetNormal w g n l) := by
  have HB := Lib.hid hb
  have HN := Lib.hid hb.2.1
  have hl := hb.1
  have HC := Lib.hid hb.2.2.2.1
  clear hb
  go_enter Tryz.func115, Tryz.ntmps115
  go_wp2
  go_loop [3] (fun i => ∃ k : Nat, k ≤ n ∧ i = .int .i64 k ∧ Hid (∀ j, k ≤ j → j < n → gw l j = 0)) (fun i => (intOf i).toNat)
  case atStart => exact ⟨n, Nat.le_refl _, rfl, Lib.hid (fun j h1 h2 => absurd h1 (by omega))⟩
  case round =>
    obtain ⟨k, hk, rfl, hz⟩ := hrel
    by_cases hk0 : k = 0
    · subst hk0
      go_wp2
      go_ret
      refine ⟨none, 0, [], rfl, Bts.nil _, fun x => ?_, Nat.zero_le _, (by simp), (by simp), rfl⟩
      rw [hasB_nil, ← hasB_take (n := 0) (fun i _ h2 => hz.out i (Nat.zero_le _) (by rw [HN.out] at h2; exact h2)), List.take_zero, hasB_nil]
    · have hcell := HC.out (k - 1) (by omega)
      have x1 : (0 : Int) < (k : Int) := by omega
      have x2 : 0 < k := by omega
      have x3 : (k : Int) - 1 < (n : Int) := by omega
      have x4 : (0 : Int) ≤ (k : Int) - 1 := by omega
      have x5 : ((k : Int) - 1).toNat = k - 1 := by omega
      have x6 : (k : Int) ≤ (c : Int) := by omega
      by_cases e : gw l (k - 1) = 0
      · rw [e] at hcell
        go_wp2
        go_round
        case rel =>
          refine ⟨k - 1, by omega, by go_num, Lib.hid (fun j h1 h2 => ?_)⟩
          rcases Nat.lt_or_ge j k with h3 | h3
          · obtain rfl : j = k - 1 := by omega
            exact e
          · exact hz.out j h3 h2
        case measure => simp [intOf]; omega
      · have e' : ((gw l (k - 1) : Int) == 0) = false := by simp; omega
        have e2 : (gw l (k - 1) == 0) = false := by simp; omega
        have E := Lib.hid e
        clear e
        go_wp2
        go_ret
        refine ⟨some ⟨g, 0, none⟩, k, l.take k, rfl, ?_, fun x => hasB_take (fun i h1 h2 => hz.out i h1 (by rw [HN.out] at h2; exact h2)) x, hk, (by intro a ha; injection ha with ha; rw [← ha]), (by simp), rfl⟩
        refine ⟨by rw [List.length_take, HN.out]; omega, fun i => ?_, fun _ => ⟨g, 0, rfl, hl, fun i hi => ?_⟩⟩
        · rcases Nat.lt_or_ge i k with h3 | h3
          · rw [gw_take h3]; exact HB.out.2.2.1 i
          · rw [gw_ge (by rw [List.length_take]; omega)]; omega
        · rw [gw_take hi, Nat.zero_add]
          exact HC.out i (by omega)

set_option maxHeartbeats 1000000 in
theorem bvalid_any (x : Nat) (w : World) (hx : x < 65536) : Calls Tryz.prog 143 #[.int .i64 x] w fun e w' => e = .returned (.bool true) ∧ w = w' := by
  have h1 : (x : Int) < 65536 := by omega
  have h2 : (0 : Int) ≤ (x : Int) := by omega
  go_enter Tryz.func143, Tryz.ntmps143
  go_wp2
  all_goals (go_ret; refine ⟨ret_bool ?_, rfl⟩; simp_all)

set_option maxRecDepth 100000 in
set_option maxHeartbeats 4000000 in
theorem with_in (A : Option Addr) (n c x : Nat) (l : List Nat) (w : World) (hb : Bts w A n l) (hn : n ≤ 1024) (hx : x < 65536) (hA : A = none → n = 0) (h : x / 64 < n) :
    Calls Tryz.prog 102 #[.slice A n c, .int .i64 x] w (GetSet0 w (n) (fun y => hasB l y || y == x)) := by
  obtain ⟨i0, hi, hz0, hz1, hz2⟩ := info_parts u64_info
  have HB := Lib.hid hb
  have HN := Lib.hid hb.1
  have HA := Lib.hid hA
  obtain ⟨q, hq⟩ : ∃ q, x / 64 = q := ⟨_, rfl⟩
  have hq1 : (x : Int) / 64 = (q : Int) := by omega
  have hqs : q ≤ 1024 := by omega
  have h64 : x % 64 < 64 := Nat.mod_lt _ (by omega)
  have hm1 : (q : Int) + 1 ≤ (n : Int) := by omega
  have hqm : q < n := by omega
  have hnm : n ≤ n := by omega
  have hqm' : (q : Int) < (n : Int) := by omega
  have hms : n ≤ 1025 := by omega
  have HM : Hid (madeCells (Value.int .u64 0).cells (n * 1) = (List.replicate n (Value.int .u64 0)).toArray) := by
    show _ = _
    rw [Nat.mul_one]
    exact made_one _ _
  have HX := Lib.hid hq
  clear hb hA hq
  go_enter Tryz.func102, Tryz.ntmps102
  go_wp2_with fail
  refine (bvalid_any x _ hx).mono ?_
  rintro e w1 ⟨rfl, rfl⟩
  go_upto_region 4 with (at_make; refine wpList_make3 _ rfl _ _ 104 rfl 182 i0 (.int .u64 0) 1 8 Tryz.underlying104 hi hz0 hz1 hz2 n rfl rfl (by omega) (by omega) _ HM.out ?_)
  go_upto_region 5 with (refine wpList_copy_splice rfl _ _ 104 104 rfl 182 Tryz.underlying104 (by kernel_rfl) _ _ _ _ _ _ rfl rfl w.heap.size 0 (List.replicate n (Value.int .u64 0)) 182 (heap_alloc_new w _) (l.map fun (v : Nat) => Value.int .u64 (v : Int)) (by rw [List.length_map, HN.out]; exact (Nat.min_eq_left hnm).symm) (words_src w HB.out HA.out) (by rw [List.length_map, HN.out, List.length_replicate, Nat.zero_add]; exact hnm) (by intro v hv; rw [List.mem_map] at hv; obtain ⟨u, -, rfl⟩ := hv; rfl) w.heap.size w ((Below.refl _ _).alloc (Nat.le_refl _) _) (Nat.le_refl _) ?_; intro wc hcp hbc)
  refine wp_named (fun V => ∃ g, w.heap.size = g ∧ Wrd V g n (padB l n) ∧ Below w.heap.size w V) ⟨_, rfl, wrd_copied hcp.out HB.out hnm, hbc⟩ ?_
  rintro V ⟨g, eg, WV, hbV⟩
  rw [eg]
  have hcell : V.cell? ⟨g, q, none⟩ = some (.int .u64 (gw l q)) := by rw [WV.2.2.2.1 q hqm, gw_padB (by rw [HN.out]; exact hnm)]
  have hfr := WV.2.2.2.2 q
  have hgl := WV.1
  have hor := bit_or (gw l q) (x % 64) (HB.out.2.1 q) h64
  have HWV := Lib.hid WV
  have HEG := Lib.hid eg
  clear WV hcp hbc eg
  go_upto_region 6 with fail
  refine wp_named (fun U => Wrd U g n (setB l n x) ∧ Below w.heap.size w U) ⟨?_, ?_⟩ ?_
  · have hs := HWV.out.set (j := q) (v := gw l q ||| 2 ^ (x % 64)) (or_lt64 (HB.out.2.1 q) h64) (setB_len l n x) (fun i hi => by
      rw [gw_setB hi, gw_padB (by rw [HN.out]; exact hnm), HX.out]
      split
      · rename_i e; rw [e]
      · rfl)
    first | exact hs | (simpa using hs)
  · exact hbV.setCell (show w.heap.size ≤ g by have := HEG.out; omega) _
  rintro U ⟨WU, hbU⟩
  clear hcell hfr hor hgl
  go_wp2_with (go_at_call 115; refine (normal_any g n n _ _ WU (Nat.le_refl _) (by omega)).mono ?_; rintro e w2 ⟨A', n', l', rfl, hb', hh', hn', hA', hA2, rfl⟩)
  go_returns
  refine ⟨A', n', l', rfl, hb', fun y => ?_, by omega, fun a ha => ?_, hA2, hbU⟩
  · rw [hh' y]
    exact hasB_set (by rw [HN.out]; exact hnm) (by rw [HX.out]; exact hqm) y
  · rw [hA' a ha]
    have := WU.1
    have := HEG.out
    omega

set_option maxRecDepth 100000 in
set_option maxHeartbeats 4000000 in
theorem with_out (A : Option Addr) (n c x : Nat) (l : List Nat) (w : World) (hb : Bts w A n l) (_hn : n ≤ 1024) (hx : x < 65536) (hA : A = none → n = 0) (h : n ≤ x / 64) :
    Calls Tryz.prog 102 #[.slice A n c, .int .i64 x] w (GetSet0 w (x / 64 + 1) (fun y => hasB l y || y == x)) := by
  obtain ⟨i0, hi, hz0, hz1, hz2⟩ := info_parts u64_info
  have HB := Lib.hid hb
  have HN := Lib.hid hb.1
  have HA := Lib.hid hA
  obtain ⟨q, hq⟩ : ∃ q, x / 64 = q := ⟨_, rfl⟩
  have hq1 : (x : Int) / 64 = (q : Int) := by omega
  have hqs : q ≤ 1024 := by omega
  have h64 : x % 64 < 64 := Nat.mod_lt _ (by omega)
  obtain ⟨m, hm⟩ : ∃ m, q + 1 = m := ⟨_, rfl⟩
  have hm1 : (q : Int) + 1 = (m : Int) := by omega
  have hm2 : (n : Int) < (m : Int) := by omega
  have hqm : q < m := by omega
  have hnm : n ≤ m := by omega
  have hqm' : (q : Int) < (m : Int) := by omega
  have hms : m ≤ 1025 := by omega
  have HM : Hid (madeCells (Value.int .u64 0).cells (m * 1) = (List.replicate m (Value.int .u64 0)).toArray) := by
    show _ = _
    rw [Nat.mul_one]
    exact made_one _ _
  have HX := Lib.hid hq
  clear hb hA hq
  go_enter Tryz.func102, Tryz.ntmps102
  go_wp2_with fail
  refine (bvalid_any x _ hx).mono ?_
  rintro e w1 ⟨rfl, rfl⟩
  go_upto_region 4 with (at_make; refine wpList_make3 _ rfl _ _ 104 rfl 182 i0 (.int .u64 0) 1 8 Tryz.underlying104 hi hz0 hz1 hz2 m rfl rfl (by omega) (by omega) _ HM.out ?_)
  go_upto_region 5 with (refine wpList_copy_splice rfl _ _ 104 104 rfl 182 Tryz.underlying104 (by kernel_rfl) _ _ _ _ _ _ rfl rfl w.heap.size 0 (List.replicate m (Value.int .u64 0)) 182 (heap_alloc_new w _) (l.map fun (v : Nat) => Value.int .u64 (v : Int)) (by rw [List.length_map, HN.out]; exact (Nat.min_eq_left hnm).symm) (words_src w HB.out HA.out) (by rw [List.length_map, HN.out, List.length_replicate, Nat.zero_add]; exact hnm) (by intro v hv; rw [List.mem_map] at hv; obtain ⟨u, -, rfl⟩ := hv; rfl) w.heap.size w ((Below.refl _ _).alloc (Nat.le_refl _) _) (Nat.le_refl _) ?_; intro wc hcp hbc)
  refine wp_named (fun V => ∃ g, w.heap.size = g ∧ Wrd V g m (padB l m) ∧ Below w.heap.size w V) ⟨_, rfl, wrd_copied hcp.out HB.out hnm, hbc⟩ ?_
  rintro V ⟨g, eg, WV, hbV⟩
  rw [eg]
  have hcell : V.cell? ⟨g, q, none⟩ = some (.int .u64 (gw l q)) := by rw [WV.2.2.2.1 q hqm, gw_padB (by rw [HN.out]; exact hnm)]
  have hfr := WV.2.2.2.2 q
  have hgl := WV.1
  have hor := bit_or (gw l q) (x % 64) (HB.out.2.1 q) h64
  have HWV := Lib.hid WV
  have HEG := Lib.hid eg
  clear WV hcp hbc eg
  go_upto_region 6 with fail
  refine wp_named (fun U => Wrd U g m (setB l m x) ∧ Below w.heap.size w U) ⟨?_, ?_⟩ ?_
  · have hs := HWV.out.set (j := q) (v := gw l q ||| 2 ^ (x % 64)) (or_lt64 (HB.out.2.1 q) h64) (setB_len l m x) (fun i hi => by
      rw [gw_setB hi, gw_padB (by rw [HN.out]; exact hnm), HX.out]
      split
      · rename_i e; rw [e]
      · rfl)
    first | exact hs | (simpa using hs)
  · exact hbV.setCell (show w.heap.size ≤ g by have := HEG.out; omega) _
  rintro U ⟨WU, hbU⟩
  clear hcell hfr hor hgl
  go_wp2_with (go_at_call 115; refine (normal_any g m m _ _ WU (Nat.le_refl _) (by omega)).mono ?_; rintro e w2 ⟨A', n', l', rfl, hb', hh', hn', hA', hA2, rfl⟩)
  go_returns
  refine ⟨A', n', l', rfl, hb', fun y => ?_, by omega, fun a ha => ?_, hA2, hbU⟩
  · rw [hh' y]
    exact hasB_set (by rw [HN.out]; exact hnm) (by rw [HX.out]; exact hqm) y
  · rw [hA' a ha]
    have := WU.1
    have := HEG.out
    omega

theorem with_any (A : Option Addr) (n c x : Nat) (l : List Nat) (w : World) (hb : Bts w A n l) (hn : n ≤ 1024) (hx : x < 65536) (hA : A = none → n = 0) :
    Calls Tryz.prog 102 #[.slice A n c, .int .i64 x] w (GetSet0 w 1024 (fun y => hasB l y || y == x)) := by
  rcases Nat.lt_or_ge (x / 64) n with h | h
  · exact (with_in A n c x l w hb hn hx hA h).mono fun e w' ⟨A', n', l', h1, h2, h3, h4, h5⟩ => ⟨A', n', l', h1, h2, h3, by omega, h5⟩
  · exact (with_out A n c x l w hb hn hx hA h).mono fun e w' ⟨A', n', l', h1, h2, h3, h4, h5⟩ => ⟨A', n', l', h1, h2, h3, by omega, h5⟩
end Go.Proofs.YtmbihjlflcjlnaaGreat
