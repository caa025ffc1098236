/- Texts: Zb Mb Zc Ib. -/
import Derived.Test.YtooejoajojanjaaGreatDoorXSf04
import Derived.Test.YtooejoajojanjaaGreatDoorXSf01
import Derived.Test.YtooejoajojanjaaGreatDoorXSf05
import Derived.Laws.CopyOwn
import Derived.Test.YtooejoajojanjaaGreatDoorRows
import Derived.Maps.OwnOps
import Derived.WalkSpells
import Derived.Test.YtooejoajojanjaaGreatDoorXSf03
namespace Go.Df
open Go.RowKit
def Wrd (w : World) (g n : Nat) (l : List Nat) : Prop := g < w.heap.size ∧ l.length = n ∧ (∀ i, gw l i < 18446744073709551616) ∧ (∀ i, i < n → w.cell? ⟨g, i, none⟩ = some (.int .u64 (gw l i))) ∧ ∀ i, w.frozen? ⟨g, i, none⟩ = false
theorem Wrd.set {w : World} {g n : Nat} {l : List Nat} (h : Wrd w g n l) {j v : Nat} (hv : v < 18446744073709551616) {l' : List Nat} (hl : l'.length = n) (h1 : ∀ i, i < n → gw l' i = if i = j then v else gw l i) : Wrd (w.setCell ⟨g, j, none⟩ (.int .u64 v)) g n l' := by
 refine ⟨by simpa [World.setCell] using h.1, hl, fun i => ?_, fun i hi => ?_, fun i => by simpa using h.2.2.2.2 i⟩
 · rcases Nat.lt_or_ge i n with hi | hi
   · rw [h1 i hi]; split
     · exact hv
     · exact h.2.2.1 i
   · rw [gw_ge (by omega)]; omega
 · rw [h1 i hi]
   by_cases e : i = j
   · subst e; rw [if_pos rfl]; exact set_same (h.2.2.2.1 i hi)
   · rw [if_neg e, set_other (.inr (fun h => e h.symm))]; exact h.2.2.2.1 i hi
def padB (l : List Nat) (n : Nat) : List Nat := (List.range n).map (gw l)
theorem padB_len (l : List Nat) (n : Nat) : (padB l n).length = n := by simp [padB]
theorem gw_padB {l : List Nat} {n : Nat} (h : l.length ≤ n) (i : Nat) : gw (padB l n) i = gw l i := by
 rcases Nat.lt_or_ge i n with hi | hi
 · rw [gw_lt (by rw [padB_len]; exact hi)]; simp [padB]
 · rw [gw_ge (by rw [padB_len]; exact hi), gw_ge (by omega)]
theorem words_at {l : List Nat} {n : Nat} (_hl : l.length ≤ n) {i : Nat} (hi : i < n) :
   (splice (List.replicate n (Value.int .u64 0)) 0 (l.map fun (v : Nat) => Value.int .u64 (v : Int)))[i]? = some (.int .u64 (gw l i)) := by
 unfold splice
 rw [List.take_zero, List.nil_append]
 rcases Nat.lt_or_ge i l.length with h | h
 · rw [List.getElem?_append_left (by simpa using h), List.getElem?_map, List.getElem?_eq_getElem h, gw_lt h]; rfl
 · rw [List.getElem?_append_right (by simpa using h), gw_ge h]
   simp only [List.length_map, Nat.zero_add, List.getElem?_drop, List.getElem?_replicate]
   rw [if_pos (by omega)]; rfl
def GetNormal (w : World) (g n : Nat) (l : List Nat) (e : Ending) (w' : World) : Prop :=
 ∃ A n' l', e = .returned (.slice A n' n') ∧ Bts w' A n' l' ∧ (∀ x, hasB l' x = hasB l x) ∧ n' ≤ n ∧ (∀ a, A = some a → a.block = g) ∧ (A = none → n' = 0) ∧ w = w'
def GetSet (w : World) (n : Nat) (f : Nat → Bool) (e : Ending) (w' : World) : Prop :=
 ∃ A n' l', e = .returned (.slice A n' n') ∧ Bts w' A n' l' ∧ (∀ x, hasB l' x = f x) ∧ n' ≤ n ∧ Fr w w' A ∧ (A = none → n' = 0) ∧ Below w.heap.size w w'
def GetSet0 (w : World) (n : Nat) (f : Nat → Bool) (e : Ending) (w' : World) : Prop :=
 ∃ A n' l', e = .returned (.tuple #[.slice A n' n', .int .i64 0]) ∧ Bts w' A n' l' ∧ (∀ x, hasB l' x = f x) ∧ n' ≤ n ∧ Fr w w' A ∧ (A = none → n' = 0) ∧ Below w.heap.size w w'
theorem words_src (w : World) {A : Option Addr} {n : Nat} {l : List Nat} (h : Bts w A n l) (_hA : A = none → n = 0) {g : Nat} {cs : Array Value} {t : TypeId} (hp : 0 < (l.map fun (v : Nat) => Value.int .u64 (v : Int)).length) :
   (some (⟨g, 0, none⟩ : Addr) = some ⟨g, 0, none⟩) ∧ ∃ ad, A = some ad ∧ ∀ j v, (l.map fun (v : Nat) => Value.int .u64 (v : Int))[j]? = some v → (w.alloc (.cells cs t)).cell? (ad.add j) = some v := by
 rw [List.length_map, h.1] at hp
 obtain ⟨b, o, rfl, hl, hc⟩ := h.2.2 hp
 refine ⟨rfl, _, rfl, fun j v hv => ?_⟩
 rw [add_lit]
 have hj : j < l.length := by
   rcases Nat.lt_or_ge j l.length with h1 | h1
   · exact h1
   · rw [List.getElem?_eq_none (by simpa using h1)] at hv; cases hv
 rw [((Kept.refl [] w).alloc _).cell b (o + j) hl (by simp), hc j (by rw [← h.1]; exact hj), ← hv, List.getElem?_map, List.getElem?_eq_getElem hj, gw_lt hj]
 rfl
theorem wrd_copied {w wc : World} {A : Option Addr} {g n m : Nat} {l : List Nat} {t : TypeId} (hc : wc.heap[g]? = some (.cells (splice (List.replicate m (Value.int .u64 0)) 0 (l.map fun (v : Nat) => Value.int .u64 (v : Int))).toArray t (0, 0))) (h : Bts w A n l) (hn : n ≤ m) : Wrd wc g m (padB l m) := by
 have hl : l.length ≤ m := by rw [h.1]; exact hn
 refine ⟨(Array.getElem?_eq_some_iff.1 hc).1, padB_len _ _, fun i => by rw [gw_padB hl]; exact h.2.1 i, fun i hi => ?_, fun i => by simp [World.frozen?, hc]⟩
 rw [gw_padB hl, ← words_at hl hi]
 simp [World.cell?, hc]
end Go.Df
namespace Go.Proofs.YtooejoajojanjaaGreatDoor
open Go.RowKit Go.Df
attribute [local go_sem ↓] Go.wp_at_zero Go.wp_at_succ
theorem u64_info : (Tryz.prog.info? 225).map (fun i => (i.zero, i.size, i.bytes)) = some (some (.int .u64 0), 1, 8) := by kernel_rfl
set_option maxHeartbeats 1000000 in
theorem word_any (A : Option Addr) (n c i : Nat) (l : List Nat) (w : World) (hb : Bts w A n l) (hi : i ≤ 1000000) :
   Calls Tryz.prog 137 #[.slice A n c, .int .i64 i] w fun e w' => e = .returned (.int .u64 (gw l i)) ∧ w = w' := by
 have HN := Lib.hid hb.1
 by_cases h : i < n
 · obtain ⟨b, o, rfl, hl, hc⟩ := hb.2.2 (by omega)
   have hcell := hc i h
   have h1 : (i : Int) < (n : Int) := by omega
   clear hc hb
   go_enter Tryz.func137, Tryz.ntmps137
   go_wp2
   go_ret
   exact ⟨rfl, rfl⟩
 · have h1 : ¬ (i : Int) < (n : Int) := by omega
   have HZ := Lib.hid (gw_ge (l := l) (i := i) (by have := hb.1; omega))
   clear hb
   go_enter Tryz.func137, Tryz.ntmps137
   go_wp2
   go_ret
   rw [HZ.out]
   exact ⟨rfl, rfl⟩
set_option maxHeartbeats 1000000 in
theorem bhas_any (A : Option Addr) (n c x : Nat) (l : List Nat) (w : World) (hb : Bts w A n l) (hx : x < 65536) :
   Calls Tryz.prog 93 #[.slice A n c, .int .i64 x] w fun e w' => e = .returned (.bool (hasB l x)) ∧ w = w' := by
 have HB := Lib.hid hb
 have hv := hb.2.1 (x / 64)
 have hbt := bit_test (gw l (x / 64)) (x % 64) hv
 have HT : Hid ((gw l (x / 64)).testBit (x % 64) = hasB l x) := rfl
 have h64 : x % 64 < 64 := Nat.mod_lt _ (by omega)
 clear hb
 go_enter Tryz.func93, Tryz.ntmps93
 go_wp2_with (go_at_call 137; refine (word_any _ _ _ (x / 64) l _ HB.out (by omega)).mono ?_; rintro e w1 ⟨rfl, rfl⟩)
 go_ret
 exact ⟨ret_bool (by first | exact HT.out | rfl | (rw [← HT.out]; first | exact hbt | simp_all)), rfl⟩
set_option maxHeartbeats 2000000 in
theorem normal_any (g n c : Nat) (l : List Nat) (w : World) (hb : Wrd w g n l) (hc : n ≤ c) (hc2 : c ≤ 1000000) :
   Calls Tryz.prog 138 #[.slice (some ⟨g, 0, none⟩) n c] w (GetNormal w g n l) := by
 have HB := Lib.hid hb
 have HN := Lib.hid hb.2.1
 have hl := hb.1
 have HC := Lib.hid hb.2.2.2.1
 clear hb
 go_enter Tryz.func138, Tryz.ntmps138
 go_wp2
 go_loop [3] (fun i => ∃ k : Nat, k ≤ n ∧ i = .int .i64 k ∧ Hid (∀ j, k ≤ j → j < n → gw l j = 0)) (fun i => (intOf i).toNat)
 case atStart => exact ⟨n, Nat.le_refl _, rfl, Lib.hid (fun j h1 h2 => absurd h1 (by omega))⟩
 case round =>
   obtain ⟨k, hk, rfl, hz⟩ := hrel
   by_cases hk0 : k = 0
   · subst hk0
     go_wp2
     go_ret
     refine ⟨none, 0, [], rfl, Bts.nil _, fun x => ?_, Nat.zero_le _, (by simp), (by simp), rfl⟩
     rw [hasB_nil, ← hasB_take (n := 0) (fun i _ h2 => hz.out i (Nat.zero_le _) (by rw [HN.out] at h2; exact h2)), List.take_zero, hasB_nil]
   · have hcell := HC.out (k - 1) (by omega)
     have x1 : (0 : Int) < (k : Int) := by omega
     have x2 : 0 < k := by omega
     have x3 : (k : Int) - 1 < (n : Int) := by omega
     have x4 : (0 : Int) ≤ (k : Int) - 1 := by omega
     have x5 : ((k : Int) - 1).toNat = k - 1 := by omega
     have x6 : (k : Int) ≤ (c : Int) := by omega
     by_cases e : gw l (k - 1) = 0
     · rw [e] at hcell
       go_wp2
       go_round
       case rel =>
         refine ⟨k - 1, by omega, by go_num, Lib.hid (fun j h1 h2 => ?_)⟩
         rcases Nat.lt_or_ge j k with h3 | h3
         · obtain rfl : j = k - 1 := by omega
           exact e
         · exact hz.out j h3 h2
       case measure => simp [intOf]; omega
     · have e' : ((gw l (k - 1) : Int) == 0) = false := by simp; omega
       have e2 : (gw l (k - 1) == 0) = false := by simp; omega
       have E := Lib.hid e
       clear e
       go_wp2
       go_ret
       refine ⟨some ⟨g, 0, none⟩, k, l.take k, rfl, ?_, fun x => hasB_take (fun i h1 h2 => hz.out i h1 (by rw [HN.out] at h2; exact h2)) x, hk, (by intro a ha; injection ha with ha; rw [← ha]), (by simp), rfl⟩
       refine ⟨by rw [List.length_take, HN.out]; omega, fun i => ?_, fun _ => ⟨g, 0, rfl, hl, fun i hi => ?_⟩⟩
       · rcases Nat.lt_or_ge i k with h3 | h3
         · rw [gw_take h3]; exact HB.out.2.2.1 i
         · rw [gw_ge (by rw [List.length_take]; omega)]; omega
       · rw [gw_take hi, Nat.zero_add]
         exact HC.out i (by omega)
set_option maxHeartbeats 1000000 in
theorem bvalid_any (x : Nat) (w : World) (hx : x < 65536) : Calls Tryz.prog 165 #[.int .i64 x] w fun e w' => e = .returned (.bool true) ∧ w = w' := by
 have h1 : (x : Int) < 65536 := by omega
 have h2 : (0 : Int) ≤ (x : Int) := by omega
 go_enter Tryz.func165, Tryz.ntmps165
 go_wp2
 all_goals (go_ret; refine ⟨ret_bool ?_, rfl⟩; simp_all)
set_option maxRecDepth 100000 in
set_option maxHeartbeats 4000000 in
theorem with_in (A : Option Addr) (n c x : Nat) (l : List Nat) (w : World) (hb : Bts w A n l) (hn : n ≤ 1024) (hx : x < 65536) (hA : A = none → n = 0) (h : x / 64 < n) :
   Calls Tryz.prog 128 #[.slice A n c, .int .i64 x] w (GetSet0 w (n) (fun y => hasB l y || y == x)) := by
 obtain ⟨i0, hi, hz0, hz1, hz2⟩ := info_parts u64_info
 have HB := Lib.hid hb
 have HN := Lib.hid hb.1
 have HA := Lib.hid hA
 obtain ⟨q, hq⟩ : ∃ q, x / 64 = q := ⟨_, rfl⟩
 have hq1 : (x : Int) / 64 = (q : Int) := by omega
 have hqs : q ≤ 1024 := by omega
 have h64 : x % 64 < 64 := Nat.mod_lt _ (by omega)
 have hm1 : (q : Int) + 1 ≤ (n : Int) := by omega
 have hqm : q < n := by omega
 have hnm : n ≤ n := by omega
 have hqm' : (q : Int) < (n : Int) := by omega
 have hms : n ≤ 1025 := by omega
 have HM : Hid (madeCells (Value.int .u64 0).cells (n * 1) = (List.replicate n (Value.int .u64 0)).toArray) := by
   show _ = _
   rw [Nat.mul_one]
   exact made_one _ _
 have HX := Lib.hid hq
 clear hb hA hq
 go_enter Tryz.func128, Tryz.ntmps128
 go_wp2_with fail
 refine (bvalid_any x _ hx).mono ?_
 rintro e w1 ⟨rfl, rfl⟩
 go_upto_region 4 with (at_make; refine wpList_make3 _ rfl _ _ 166 rfl 225 i0 (.int .u64 0) 1 8 Tryz.underlying166 hi hz0 hz1 hz2 n rfl rfl (by omega) (by omega) _ HM.out ?_)
 go_upto_region 5 with (refine wpList_copy_splice rfl _ _ 166 166 rfl 225 Tryz.underlying166 (by kernel_rfl) _ _ _ _ _ _ rfl rfl w.heap.size 0 (List.replicate n (Value.int .u64 0)) 225 (heap_alloc_new w _) (l.map fun (v : Nat) => Value.int .u64 (v : Int)) (by rw [List.length_map, HN.out]; exact (Nat.min_eq_left hnm).symm) (words_src w HB.out HA.out) (by rw [List.length_map, HN.out, List.length_replicate, Nat.zero_add]; exact hnm) (by intro v hv; rw [List.mem_map] at hv; obtain ⟨u, -, rfl⟩ := hv; rfl) w.heap.size w ((Below.refl _ _).alloc (Nat.le_refl _) _) (Nat.le_refl _) ?_; intro wc hcp hbc)
 refine wp_named (fun V => ∃ g, w.heap.size = g ∧ Wrd V g n (padB l n) ∧ Below w.heap.size w V) ⟨_, rfl, wrd_copied hcp.out HB.out hnm, hbc⟩ ?_
 rintro V ⟨g, eg, WV, hbV⟩
 rw [eg]
 have hcell : V.cell? ⟨g, q, none⟩ = some (.int .u64 (gw l q)) := by rw [WV.2.2.2.1 q hqm, gw_padB (by rw [HN.out]; exact hnm)]
 have hfr := WV.2.2.2.2 q
 have hgl := WV.1
 have hor := bit_or (gw l q) (x % 64) (HB.out.2.1 q) h64
 have HWV := Lib.hid WV
 have HEG := Lib.hid eg
 clear WV hcp hbc eg
 go_upto_region 6 with fail
 refine wp_named (fun U => Wrd U g n (setB l n x) ∧ Below w.heap.size w U) ⟨?_, ?_⟩ ?_
 · have hs := HWV.out.set (j := q) (v := gw l q ||| 2 ^ (x % 64)) (or_lt64 (HB.out.2.1 q) h64) (setB_len l n x) (fun i hi => by
     rw [gw_setB hi, gw_padB (by rw [HN.out]; exact hnm), HX.out]
     split
     · rename_i e; rw [e]
     · rfl)
   first | exact hs | (simpa using hs)
 · exact hbV.setCell (show w.heap.size ≤ g by have := HEG.out; omega) _
 rintro U ⟨WU, hbU⟩
 clear hcell hfr hor hgl
 go_wp2_with (go_at_call 138; refine (normal_any g n n _ _ WU (Nat.le_refl _) (by omega)).mono ?_; rintro e w2 ⟨A', n', l', rfl, hb', hh', hn', hA', hA2, rfl⟩)
 go_returns
 refine ⟨A', n', l', rfl, hb', fun y => ?_, by omega, fun a ha => ?_, hA2, hbU⟩
 · rw [hh' y]
   exact hasB_set (by rw [HN.out]; exact hnm) (by rw [HX.out]; exact hqm) y
 · rw [hA' a ha]
   have := WU.1
   have := HEG.out
   omega
set_option maxRecDepth 100000 in
set_option maxHeartbeats 4000000 in
theorem with_out (A : Option Addr) (n c x : Nat) (l : List Nat) (w : World) (hb : Bts w A n l) (_hn : n ≤ 1024) (hx : x < 65536) (hA : A = none → n = 0) (h : n ≤ x / 64) :
   Calls Tryz.prog 128 #[.slice A n c, .int .i64 x] w (GetSet0 w (x / 64 + 1) (fun y => hasB l y || y == x)) := by
 obtain ⟨i0, hi, hz0, hz1, hz2⟩ := info_parts u64_info
 have HB := Lib.hid hb
 have HN := Lib.hid hb.1
 have HA := Lib.hid hA
 obtain ⟨q, hq⟩ : ∃ q, x / 64 = q := ⟨_, rfl⟩
 have hq1 : (x : Int) / 64 = (q : Int) := by omega
 have hqs : q ≤ 1024 := by omega
 have h64 : x % 64 < 64 := Nat.mod_lt _ (by omega)
 obtain ⟨m, hm⟩ : ∃ m, q + 1 = m := ⟨_, rfl⟩
 have hm1 : (q : Int) + 1 = (m : Int) := by omega
 have hm2 : (n : Int) < (m : Int) := by omega
 have hqm : q < m := by omega
 have hnm : n ≤ m := by omega
 have hqm' : (q : Int) < (m : Int) := by omega
 have hms : m ≤ 1025 := by omega
 have HM : Hid (madeCells (Value.int .u64 0).cells (m * 1) = (List.replicate m (Value.int .u64 0)).toArray) := by
   show _ = _
   rw [Nat.mul_one]
   exact made_one _ _
 have HX := Lib.hid hq
 clear hb hA hq
 go_enter Tryz.func128, Tryz.ntmps128
 go_wp2_with fail
 refine (bvalid_any x _ hx).mono ?_
 rintro e w1 ⟨rfl, rfl⟩
 go_upto_region 4 with (at_make; refine wpList_make3 _ rfl _ _ 166 rfl 225 i0 (.int .u64 0) 1 8 Tryz.underlying166 hi hz0 hz1 hz2 m rfl rfl (by omega) (by omega) _ HM.out ?_)
 go_upto_region 5 with (refine wpList_copy_splice rfl _ _ 166 166 rfl 225 Tryz.underlying166 (by kernel_rfl) _ _ _ _ _ _ rfl rfl w.heap.size 0 (List.replicate m (Value.int .u64 0)) 225 (heap_alloc_new w _) (l.map fun (v : Nat) => Value.int .u64 (v : Int)) (by rw [List.length_map, HN.out]; exact (Nat.min_eq_left hnm).symm) (words_src w HB.out HA.out) (by rw [List.length_map, HN.out, List.length_replicate, Nat.zero_add]; exact hnm) (by intro v hv; rw [List.mem_map] at hv; obtain ⟨u, -, rfl⟩ := hv; rfl) w.heap.size w ((Below.refl _ _).alloc (Nat.le_refl _) _) (Nat.le_refl _) ?_; intro wc hcp hbc)
 refine wp_named (fun V => ∃ g, w.heap.size = g ∧ Wrd V g m (padB l m) ∧ Below w.heap.size w V) ⟨_, rfl, wrd_copied hcp.out HB.out hnm, hbc⟩ ?_
 rintro V ⟨g, eg, WV, hbV⟩
 rw [eg]
 have hcell : V.cell? ⟨g, q, none⟩ = some (.int .u64 (gw l q)) := by rw [WV.2.2.2.1 q hqm, gw_padB (by rw [HN.out]; exact hnm)]
 have hfr := WV.2.2.2.2 q
 have hgl := WV.1
 have hor := bit_or (gw l q) (x % 64) (HB.out.2.1 q) h64
 have HWV := Lib.hid WV
 have HEG := Lib.hid eg
 clear WV hcp hbc eg
 go_upto_region 6 with fail
 refine wp_named (fun U => Wrd U g m (setB l m x) ∧ Below w.heap.size w U) ⟨?_, ?_⟩ ?_
 · have hs := HWV.out.set (j := q) (v := gw l q ||| 2 ^ (x % 64)) (or_lt64 (HB.out.2.1 q) h64) (setB_len l m x) (fun i hi => by
     rw [gw_setB hi, gw_padB (by rw [HN.out]; exact hnm), HX.out]
     split
     · rename_i e; rw [e]
     · rfl)
   first | exact hs | (simpa using hs)
 · exact hbV.setCell (show w.heap.size ≤ g by have := HEG.out; omega) _
 rintro U ⟨WU, hbU⟩
 clear hcell hfr hor hgl
 go_wp2_with (go_at_call 138; refine (normal_any g m m _ _ WU (Nat.le_refl _) (by omega)).mono ?_; rintro e w2 ⟨A', n', l', rfl, hb', hh', hn', hA', hA2, rfl⟩)
 go_returns
 refine ⟨A', n', l', rfl, hb', fun y => ?_, by omega, fun a ha => ?_, hA2, hbU⟩
 · rw [hh' y]
   exact hasB_set (by rw [HN.out]; exact hnm) (by rw [HX.out]; exact hqm) y
 · rw [hA' a ha]
   have := WU.1
   have := HEG.out
   omega
theorem with_any (A : Option Addr) (n c x : Nat) (l : List Nat) (w : World) (hb : Bts w A n l) (hn : n ≤ 1024) (hx : x < 65536) (hA : A = none → n = 0) :
   Calls Tryz.prog 128 #[.slice A n c, .int .i64 x] w (GetSet0 w 1024 (fun y => hasB l y || y == x)) := by
 rcases Nat.lt_or_ge (x / 64) n with h | h
 · exact (with_in A n c x l w hb hn hx hA h).mono fun e w' ⟨A', n', l', h1, h2, h3, h4, h5⟩ => ⟨A', n', l', h1, h2, h3, by omega, h5⟩
 · exact (with_out A n c x l w hb hn hx hA h).mono fun e w' ⟨A', n', l', h1, h2, h3, h4, h5⟩ => ⟨A', n', l', h1, h2, h3, by omega, h5⟩
end Go.Proofs.YtooejoajojanjaaGreatDoor
namespace Go.Df
open Go.RowKit
def nint (x : Nat) : Value := .int .i64 (x : Int)
theorem nints (l : List Nat) : l.map nint = (ofNats l).map (Value.int .i64) := by simp [nint, ofNats]
theorem gi_ofNats {l : List Nat} {i : Nat} (h : i < l.length) : gi (ofNats l) i = (l[i] : Int) := by rw [gi_lt (by simpa [ofNats] using h)]; simp [ofNats]
def GetList (w : World) (l : List Nat) (e : Ending) (w' : World) : Prop :=
 ∃ A n c, e = .returned (.slice A n c) ∧ SIn w' A n c (ofNats l) ∧ Fr w w' A ∧ Below w.heap.size w w'
end Go.Df
namespace Go.Proofs.YtooejoajojanjaaGreatDoor
open Go.RowKit Go.Df
attribute [local go_sem ↓] Go.wp_at_zero Go.wp_at_succ
set_option maxRecDepth 100000 in
set_option maxHeartbeats 4000000 in
theorem blist_any (A : Option Addr) (n c : Nat) (l : List Nat) (w : World) (hb : Bts w A n l) (hn : n ≤ 1024) :
   Calls Tryz.prog 95 #[.slice A n c] w (GetList w (elemsB l (n * 64))) := by
 obtain ⟨i0, hi, hz0, hz1, hz2⟩ := info_parts int_info
 have HB := Lib.hid hb
 clear hb
 go_enter Tryz.func95, Tryz.ntmps95
 go_wp2
 go_loopw [3, 9] (fun v s9 wr => ∃ i : Nat, i ≤ n ∧ s9 = .int .i64 i ∧ wr.ownsRow w.heap.size 3 1 v (elemsB l (i * 64)).length ((elemsB l (i * 64)).map nint) ∧ Below w.heap.size w wr) (fun _ s9 _ => n - (intOf s9).toNat)
 case atStart => exact ⟨0, Nat.zero_le _, rfl, ⟨by simp [elemsB], .inl ⟨rfl, by simp [elemsB]⟩⟩, Below.refl _ _⟩
 case round =>
 obtain ⟨i, hi', rfl, hown, hB⟩ := hrel
 by_cases hlt : i < n
 case neg =>
   obtain rfl : i = n := by omega
   go_wp2
   go_ret
   have hown' := hown
   rw [nints] at hown'
   obtain ⟨A', c', rfl, h1, h2⟩ := SIn.of_own (xs := ofNats (elemsB l (i * 64))) (by first | exact hown' | (rw [← ofNats_len] at hown'; exact hown'))
   exact ⟨A', _, c', rfl, h1, h2, hB⟩
 obtain ⟨b, o, rfl, hl, hc⟩ := HB.out.2.2 (by omega)
 have hcell : wr.cell? ⟨b, o + i, none⟩ = some (.int .u64 (gw l i)) := (hB.cell (p := ⟨b, o + i, none⟩) hl).trans (hc i hlt)
 have hi1 : (i : Int) < (n : Int) := by omega
 have hv64 := HB.out.2.1 i
 clear hc
 by_cases e : gw l i = 0
 · have e1 : ((gw l i : Int) == 0) = true := by simp [e]
   have E2 : Hid (elemsB l ((i + 1) * 64) = elemsB l (i * 64)) := by show _ = _; rw [show (i + 1) * 64 = i * 64 + 64 by omega]; exact elemsB_zero e 64 (Nat.le_refl _)
   clear e
   go_wp2
   go_roundw
   case rel => exact ⟨i + 1, by omega, by go_num, by rw [E2.out]; exact hown, hB⟩
   case measure => simp [intOf]; omega
 have e1 : ((gw l i : Int) == 0) = false := by simp; omega
 have e2 : (gw l i == 0) = false := by simp; omega
 clear e
 have OWN := Lib.hid hown
 have HBw := Lib.hid hB
 obtain ⟨v0, hv0⟩ : ∃ v0, v0 = gw l i := ⟨_, rfl⟩
 rw [← hv0] at hcell e1 e2 hv64
 have HV := Lib.hid hv0
 clear hv0 hown hB
 go_wp2
 go_loopw [3, 18] (fun v s18 wr => ∃ j : Nat, j ≤ 64 ∧ s18 = .int .i64 j ∧ wr.ownsRow w.heap.size 3 1 v (elemsB l (i * 64 + j)).length ((elemsB l (i * 64 + j)).map nint) ∧ Below w.heap.size w wr) (fun _ s18 _ => 64 - (intOf s18).toNat)
 case atStart => exact ⟨0, by omega, rfl, OWN.out, HBw.out⟩
 case round =>
 rename World => wq
 obtain ⟨j, hj, rfl, hown, hB⟩ := hrel
 by_cases hlj : j < 64
 case neg =>
   obtain rfl : j = 64 := by omega
   go_wp2
   go_roundw
   case rel => exact ⟨i + 1, by omega, by go_num, by rw [show (i + 1) * 64 = i * 64 + 64 by omega]; exact hown, hB⟩
   case measure => simp [intOf]; omega
 have hj1 : (j : Int) < 64 := by omega
 have hbt := bit_test v0 j hv64
 have hsu := elemsB_succ l (i * 64 + j)
 rw [hasB_at hlj, ← HV.out] at hsu
 have hle := elemsB_len l (i * 64 + j)
 cases hT : v0.testBit j with
 | false =>
   rw [hT] at hbt hsu
   have E2 : Hid (elemsB l (i * 64 + (j + 1)) = elemsB l (i * 64 + j)) := by show _ = _; rw [← Nat.add_assoc, hsu]; rfl
   clear hsu hT
   go_wp2
   go_roundw
   case rel => exact ⟨j + 1, by omega, by go_num, by rw [E2.out]; exact hown, hB⟩
   case measure => simp [intOf]; omega
 | true =>
   rw [hT] at hbt hsu
   have E2 : Hid (elemsB l (i * 64 + (j + 1)) = elemsB l (i * 64 + j) ++ [i * 64 + j]) := by show _ = _; rw [← Nat.add_assoc, hsu]; rfl
   clear hsu hT
   go_wp2_with (at_builtin; refine wpList_append_own _ rfl _ _ 31 rfl w.heap.size 3 i0 (.int .i64 0) 1 8 Tryz.underlying31 hi hz0 hz1 hz2 rfl (by decide) _ _ _ rfl (hown.alloc _) ⟨wq.heap.size, 0, none⟩ 1 1 [nint (i * 64 + j)] rfl rfl ?c1 ?c2 ?c3 ?c4 ?c5 ?_)
   case c1 => exact cell_one_new _ _ _
   case c2 => intro u hu; simp at hu; subst hu; rfl
   case c3 => unfold maxLen; omega
   case c4 => omega
   case c5 => have := hB.size; simp; omega
   intro v' w1 hown1 hgrow _
   have hB1 : Below w.heap.size w w1 := (hB.alloc hB.size _).grown hgrow (by have := hB.size; simp; omega) (fun g hg => own_ge hown hg)
   have hown2 : w1.ownsRow w.heap.size 3 1 v' (elemsB l (i * 64 + (j + 1))).length ((elemsB l (i * 64 + (j + 1))).map nint) := by
     rw [E2.out]; simpa using hown1
   clear hown1 E2 hgrow hown hB hcell
   go_wp2
   go_roundw
   case rel => exact ⟨j + 1, by omega, by go_num, hown2, hB1⟩
   case measure => simp [intOf]; omega
end Go.Proofs.YtooejoajojanjaaGreatDoor
namespace Go.Proofs.YtooejoajojanjaaGreatDoor
open Go.RowKit Go.Df Go.WideMaps
theorem Tryz.laidOut : laidOutB Tryz.prog = true := by kernel_rfl
theorem Tryz.rowEdge : (214 : TypeId) < Tryz.prog.types.size := of_decide_eq_true (by kernel_rfl)
theorem Tryz.deepEdge : Tryz.prog.keyTypeAt (Tryz.prog.types.size + 1) 214 = true := by kernel_rfl
theorem Tryz.deepEdge2 : Tryz.prog.keyTypeAt 2 214 = true := by kernel_rfl
theorem Tryz.fieldsEdge : fieldsOf Tryz.prog 214 = [("From", 3, 0), ("To", 3, 1)] := by kernel_rfl
theorem Tryz.lawEdge : Maps.Keyed Tryz.prog 214 := keyed_struct Tryz.laidOut Tryz.rowEdge Tryz.deepEdge2 Tryz.fieldsEdge (by simp)
theorem Tryz.zeroBool (w : World) : (zeroValue 4).run Tryz.prog w = .ok (.bool false) w := by kernel_rfl
theorem Tryz.zeroInt (w : World) : (zeroValue 3).run Tryz.prog w = .ok (.int .i64 0) w := by kernel_rfl
theorem Tryz.mapII : Tryz.prog.underlying 209 = some (.map 3 3) := by kernel_rfl
theorem Tryz.mapEB : Tryz.prog.underlying 212 = some (.map 214 4) := by kernel_rfl
theorem Tryz.undInt : Tryz.prog.underlying 3 = some (.int .i64) := by kernel_rfl
theorem Tryz.undBool : Tryz.prog.underlying 4 = some .bool := by kernel_rfl
theorem Tryz.lawInt : Maps.Keyed Tryz.prog 3 := Maps.int_keyed Tryz.undInt
theorem Tryz.keyInt (a : Int) (h : (Lit.int .i64 a).wf = true) : keyOf Tryz.prog 3 (.int .i64 a) = some (.int .i64 a) := Maps.keyOf_int_mk Tryz.undInt h
theorem Tryz.cellsInt : Tryz.prog.cellsOf 3 = 1 := by kernel_rfl
theorem Tryz.cellsEdge : Tryz.prog.cellsOf 214 = 2 := by kernel_rfl
theorem Tryz.keyEdge (a b : Int) (ha : (Lit.int .i64 a).wf = true) (hb : (Lit.int .i64 b).wf = true) : ∃ kl, keyOf Tryz.prog 214 (.agg #[.int .i64 a, .int .i64 b]) = some kl :=
 keyOf_two Tryz.fieldsEdge (by decide) (by decide) Tryz.deepEdge Tryz.rowEdge Tryz.cellsEdge Tryz.undInt Tryz.cellsInt a b ha hb
end Go.Proofs.YtooejoajojanjaaGreatDoor
namespace Go.Df
open Go.RowKit Go.Maps
def PutT (P : Program) (k tM : TypeId) (z : Value) (w : World) (r N : Nat) (m : Nat → Option Nat) (c : Nat → Nat) (v : Nat → Value → Value) (n : Nat) (key x : Value) (e : Ending) (w' : World) : Prop :=
 ∃ m', e = .returned (.tuple #[]) ∧ Tb P k tM z w' r N m' (fun i => if i = n then c n + 1 else c i) (updV v n key x) ∧ Kept (r :: (m n).toList) w w' ∧ (∀ i, i ≠ n → m' i = m i) ∧ (m' n = m n ∨ (m n = none ∧ ∃ b, m' n = some b ∧ w.heap.size ≤ b))
theorem updV_at (v : Nat → Value → Value) (n : Nat) (key x : Value) : updV v n key x n key = x := by simp [updV]
theorem updV_key (v : Nat → Value → Value) (n : Nat) (key x y : Value) (h : y ≠ key) : updV v n key x n y = v n y := by simp [updV, h]
end Go.Df
namespace Go.Proofs.YtooejoajojanjaaGreatDoor
open Go.RowKit Go.Df Go.Maps
attribute [local go_sem ↓] Go.wp_at_zero Go.wp_at_succ
theorem Tryz.zeroBits (w : World) : (zeroValue 166).run Tryz.prog w = .ok (.slice none 0 0) w := by kernel_rfl
theorem Tryz.mapIB : Tryz.prog.underlying 157 = some (.map 3 166) := by kernel_rfl
abbrev TbB (w : World) (r N : Nat) (m : Nat → Option Nat) (c : Nat → Nat) (v : Nat → Value → Value) : Prop := Tb Tryz.prog 3 157 (.slice none 0 0) w r N m c v
def GetInsr (w : World) (r N : Nat) (m : Nat → Option Nat) (c : Nat → Nat) (v : Nat → Value → Value) (n : Nat) (key : Value) (d : Nat) (l : List Nat) (e : Ending) (w' : World) : Prop :=
 ∃ w4 A2 k2 l2, e = .returned (.bool true) ∧ Below w.heap.size w w4 ∧ Bts w4 A2 k2 l2 ∧ (∀ x, hasB l2 x = (hasB l x || x == d)) ∧ k2 ≤ 1024 ∧ Fr w w4 A2 ∧ (A2 = none → k2 = 0) ∧ PutT Tryz.prog 3 157 (.slice none 0 0) w4 r N m c v n key (.slice A2 k2 k2) (.returned (.tuple #[])) w'
set_option maxRecDepth 100000 in
set_option maxHeartbeats 4000000 in
theorem insert_has (r N n a d bm : Nat) (m : Nat → Option Nat) (c : Nat → Nat) (v : Nat → Value → Value) (A : Option Addr) (k l0 : Nat) (l : List Nat) (w : World) (ht : TbB w r N m c v) (hn : n < N) (hm : m n = some bm) (ha : a ≤ 1000000) (hd : d < 65536) (hv : v n (.int .i64 a) = .slice A k l0) (hbt : Bts w A k l) (hh : hasB l d = true) :
   Calls Tryz.prog 89 #[.map (some bm), .int .i64 a, .int .i64 d] w fun e w' => e = .returned (.bool false) ∧ w' = w := by
 have hkey := Tryz.keyInt (a : Int) (WalkArith.wf_i64 (by omega))
 have hrun : (Instr.lookup 157 (.map (some bm)) (.int .i64 a) false).run Tryz.prog w = .ok (.slice A k l0) w := by
   have := (ht.is n bm hn hm).look Tryz.lawInt Tryz.mapIB (Tryz.zeroBits w) hkey
   rwa [hv] at this
 have HB := Lib.hid hbt
 clear ht hkey hbt hv hm
 go_enter Tryz.func89, Tryz.ntmps89
 go_wp2_with (go_at_call 93; refine (bhas_any A k l0 d l _ HB.out (by omega)).mono ?_; rintro e w2 ⟨rfl, rfl⟩)
 go_ret
 exact ⟨rfl, rfl⟩
set_option maxRecDepth 100000 in
set_option maxHeartbeats 4000000 in
theorem insert_new (r N n a d bm : Nat) (m : Nat → Option Nat) (c : Nat → Nat) (v : Nat → Value → Value) (A : Option Addr) (k l0 : Nat) (l : List Nat) (w : World) (ht : TbB w r N m c v) (hn : n < N) (hm : m n = some bm) (ha : a ≤ 1000000) (hd : d < 65536) (hv : v n (.int .i64 a) = .slice A k l0) (hbt : Bts w A k l) (hk : k ≤ 1024) (hA : A = none → k = 0) (hc : c n < maxLen) (hh : hasB l d = false) :
   Calls Tryz.prog 89 #[.map (some bm), .int .i64 a, .int .i64 d] w (GetInsr w r N m c v n (.int .i64 a) d l) := by
 have hkey := Tryz.keyInt (a : Int) (WalkArith.wf_i64 (by omega))
 have hrun : (Instr.lookup 157 (.map (some bm)) (.int .i64 a) false).run Tryz.prog w = .ok (.slice A k l0) w := by
   have := (ht.is n bm hn hm).look Tryz.lawInt Tryz.mapIB (Tryz.zeroBits w) hkey
   rwa [hv] at this
 have HB := Lib.hid hbt
 have HT := Lib.hid ht
 have HA := Lib.hid hA
 have HM := Lib.hid hm
 have HK := Lib.hid hkey
 clear ht hkey hbt hv hm hA
 go_enter Tryz.func89, Tryz.ntmps89
 go_upto_region 4 with (first | (go_at_call 93; refine (bhas_any A k l0 d l _ HB.out (by omega)).mono ?_; rintro e w2 ⟨rfl, rfl⟩) | (go_at_call 128; refine (with_any A k l0 d l _ HB.out hk (by omega) HA.out).mono ?_; rintro e w4 ⟨A2, k2, l2, rfl, hbt2, hhas2, hk2, hfr2, hA2, hb4⟩))
 have HT4 := Lib.hid (HT.out.kept ((Kept.refl [] w).call hb4) (by simp) (by simp))
 have HMB := Lib.hid (HT4.out.is n bm hn HM.out)
 have HNZ : Hid ((Value.slice A2 k2 k2) ≠ .slice none 0 0) := by
   show _ ≠ _
   intro e
   injection e with _ e2
   have h1 := hhas2 d
   have h2 : l2 = [] := List.eq_nil_of_length_eq_zero (by rw [hbt2.1]; exact e2)
   rw [h2, hasB_nil] at h1
   simp at h1
 clear hrun
 go_wp2_with (at_mapUpdate; go_loud (refine wpList_store_mapT _ rfl _ _ _ 157 rfl 3 166 Tryz.lawInt Tryz.mapIB (.slice none 0 0) bm (c n) (v n) rfl HMB.out hc (.int .i64 a) (.slice A2 k2 k2) _ rfl rfl HK.out (updV v n (.int .i64 a) (.slice A2 k2 k2) n) (updV_at _ _ _ _) (fun x hx => updV_key _ _ _ _ _ hx) HNZ.out ?_); intro w9 hmt hk9)
 go_ret
 have hT := HT4.out.stored hn HM.out hk9 hmt
 refine ⟨w4, A2, k2, l2, rfl, hb4, hbt2, hhas2, hk2, hfr2, hA2, m, rfl, hT, ?_, fun i hi => rfl, .inl rfl⟩
 rw [HM.out]
 exact Kept.next (X := r :: [bm]) (Kept.refl _ _) hk9 (by simp)
end Go.Proofs.YtooejoajojanjaaGreatDoor
namespace Go.Df
open Go.RowKit
namespace If
open Sp
def stOf (ns : List Nd) : Nat → Nat
 | 0 => 0
 | i + 1 => if (gn ns (i + 1)).k = 1 then i + 1 else stOf ns i
theorem stOf_le (ns : List Nd) : ∀ i, stOf ns i ≤ i
 | 0 => Nat.le_refl _
 | i + 1 => by
   rw [stOf]
   split
   · exact Nat.le_refl _
   · exact Nat.le_succ_of_le (stOf_le ns i)
theorem stOf_hit {ns : List Nd} {j : Nat} : ∀ {i : Nat}, j ≤ i → (gn ns j).k = 1 → j ≤ stOf ns i ∧ (gn ns (stOf ns i)).k = 1
 | 0, h, hk => by obtain rfl : j = 0 := by omega
                  exact ⟨Nat.zero_le _, hk⟩
 | i + 1, h, hk => by
   rw [stOf]
   split
   · rename_i h1; exact ⟨h, h1⟩
   · rename_i h1
     by_cases e : j = i + 1
     · subst e; exact absurd hk h1
     · exact stOf_hit (by omega) hk
structure NdOk (ns : List Nd) : Prop where
 err : ∀ x, x < ns.length → nodeErr ns x = 0
 st : ∀ x, x < ns.length → ∃ j, j < ns.length ∧ (gn ns j).f = (gn ns x).f ∧ (gn ns j).k = 1
theorem ndOk_of {ns : List Nd} {m : Int} (h : nodesErr ns m = 0) : NdOk ns := by
 unfold nodesErr at h
 split at h
 · rename_i h0; exact absurd h h0
 · rename_i h0
   split at h
   · rename_i h1; exact absurd h h1
   · rename_i h1
     refine ⟨fun x hx => fe_zero _ _ (Decidable.byContradiction h0) x (Nat.zero_le _) (by omega), fun x hx => ?_⟩
     have h2 := fe_zero _ _ (Decidable.byContradiction h1) x (Nat.zero_le _) (by omega)
     unfold wholeErr at h2
     split at h2
     · cases h2
     · rename_i h3
       refine Classical.byContradiction fun h4 => h3 (.inl (kind_neg.2 fun j hj hh => h4 ⟨j, hj, hh.1, hh.2⟩))
theorem NdOk.kind {ns : List Nd} (h : NdOk ns) {x : Nat} (hx : x < ns.length) : 1 ≤ (gn ns x).k ∧ (gn ns x).k ≤ 4 := by
 have := h.err x hx
 unfold nodeErr at this
 split at this
 · cases this
 · omega
theorem NdOk.le {ns : List Nd} (h : NdOk ns) {i j : Nat} (hij : i ≤ j) (hj : j < ns.length) : (gn ns i).f ≤ (gn ns j).f := by
 by_cases e : i = j
 · rw [e]; exact Int.le_refl _
 · have := node_asc h.err j i (by omega) hj
   unfold lessN at this
   split at this
   · have := of_decide_eq_true this; omega
   · omega
theorem NdOk.ahead {ns : List Nd} (h : NdOk ns) {j x : Nat} (hj : j < ns.length) (hx : x < ns.length) (hf : (gn ns j).f = (gn ns x).f) (hk : (gn ns j).k = 1) : j ≤ x := by
 rcases Nat.lt_or_ge x j with h1 | h1
 · have h2 := node_asc h.err j x h1 hj
   have h3 := h.kind hx
   unfold lessN at h2
   rw [if_neg (by rw [hf]; simp)] at h2
   split at h2
   · have := of_decide_eq_true h2; omega
   · rename_i h4
     have h5 : (gn ns x).k = 1 := by rw [← hk]; exact Decidable.byContradiction h4
     have := of_decide_eq_true h2
     rw [node_i (h.err x hx) (by omega), node_i (h.err j hj) (by omega)] at this
     omega
 · exact h1
theorem NdOk.start {ns : List Nd} (h : NdOk ns) {x : Nat} (hx : x < ns.length) : (gn ns (stOf ns x)).f = (gn ns x).f ∧ (gn ns (stOf ns x)).k = 1 := by
 obtain ⟨j, hj, hf, hk⟩ := h.st x hx
 have h1 := h.ahead hj hx hf hk
 obtain ⟨h2, h3⟩ := stOf_hit h1 hk
 have h4 := stOf_le ns x
 have h5 := h.le h2 (by omega)
 have h6 := h.le h4 hx
 exact ⟨by omega, h3⟩
theorem NdOk.start_iff {ns : List Nd} (h : NdOk ns) {x s : Nat} (hx : x < ns.length) (hs : s < ns.length) (hk : (gn ns s).k = 1) : stOf ns x = s ↔ (gn ns s).f = (gn ns x).f := by
 have h1 := h.start hx
 constructor
 · rintro rfl; exact h1.1
 · intro hf
   have hl : stOf ns x < ns.length := by have := stOf_le ns x; omega
   have h2 := h.ahead hs hl (by rw [hf, h1.1]) hk
   have h3 := h.ahead hl hs (by rw [hf, h1.1]) h1.2
   omega
theorem Ok.nd {p : Pb} (h : Ok p) : NdOk p.ns := ndOk_of (sup_parts h.sup).2.2.1
theorem Ok.edge {p : Pb} (h : Ok p) {k : Nat} (hk : k < p.es.length) :
   0 ≤ (ge p.es k).a ∧ (ge p.es k).a < p.ns.length ∧ 0 ≤ (ge p.es k).b ∧ (ge p.es k).b < p.ns.length ∧ 1 ≤ (ge p.es k).k ∧ (ge p.es k).k ≤ 5 ∧ ((ge p.es k).k ≠ 1 → (ge p.es k).k ≠ 5 → 0 ≤ (ge p.es k).c ∧ (ge p.es k).c < p.ns.length) ∧ fitsB p.ns p.es (ge p.es k) = true := sup_edge h.sup hk
theorem Ok.call {p : Pb} (h : Ok p) {k : Nat} (hk : k < p.es.length) (h2 : (ge p.es k).k = 2) : (gn p.ns (ge p.es k).b.toNat).k = 1 ∧ (gn p.ns (ge p.es k).a.toNat).k = 2 ∧ (ge p.es k).c = (ge p.es k).a := by
 have h1 := (h.edge hk).2.2.2.2.2.2.2
 unfold fitsB fitsN at h1
 rw [if_neg (by omega), if_pos h2] at h1
 simp at h1
 exact ⟨h1.2, h1.1.1, h1.1.2⟩
theorem Ok.ret {p : Pb} (h : Ok p) {k : Nat} (hk : k < p.es.length) (h2 : (ge p.es k).k = 3 ∨ (ge p.es k).k = 4) : (gn p.ns (ge p.es k).a.toNat).k = 3 ∨ (gn p.ns (ge p.es k).a.toNat).k = 4 := by
 have h1 := (h.edge hk).2.2.2.2.2.2.2
 unfold fitsB fitsN at h1
 rw [if_neg (by omega), if_neg (by omega)] at h1
 split at h1
 · cases h1
 · omega
structure Clo (p : Pb) (T : Nat → Nat → Nat → Prop) : Prop where
 main : T 0 p.mn.toNat 0
 seed : ∀ s ∈ p.sd, T 0 s.n.toNat 0 → T 0 s.n.toNat s.f.toNat
 flow : ∀ k, k < p.es.length → ((ge p.es k).k = 1 ∨ (ge p.es k).k = 5) → ∀ q ∈ gf p.fl k, ∀ a, T a (ge p.es k).a.toNat q.i.toNat → T a (ge p.es k).b.toNat q.o.toNat
 call : ∀ k, k < p.es.length → (ge p.es k).k = 2 → ∀ q ∈ gf p.fl k, ∀ a, T a (ge p.es k).a.toNat q.i.toNat → T q.o.toNat (ge p.es k).b.toNat q.o.toNat
 ret : ∀ c, c < p.es.length → (ge p.es c).k = 2 → ∀ q ∈ gf p.fl c, ∀ r, r < p.es.length → ((ge p.es r).k = 3 ∨ (ge p.es r).k = 4) → ∀ s ∈ gf p.fl r, (ge p.es c).a = (ge p.es r).c → (gn p.ns (ge p.es c).b.toNat).f = (gn p.ns (ge p.es r).a.toNat).f →
   ∀ a, T a (ge p.es c).a.toNat q.i.toNat → T q.o.toNat (ge p.es r).a.toNat s.i.toNat → T a (ge p.es r).b.toNat s.o.toNat
theorem Clo.all {p : Pb} {T : Nat → Nat → Nat → Prop} (h : Clo p T) {a n d : Nat} (hp : PE p a n d) : T a n d := by
 induction hp with
 | main => exact h.main
 | seed _ hs ih => exact h.seed _ hs ih
 | flow hk hk2 hq _ ih => exact h.flow _ hk hk2 _ hq _ ih
 | call hk hk2 hq _ ih => exact h.call _ hk hk2 _ hq _ ih
 | ret hc hc2 hq hr hr2 hs e1 e2 _ _ ih1 ih2 => exact h.ret _ hc hc2 _ hq _ hr hr2 _ hs e1 e2 _ ih1 ih2
end If
end Go.Df
