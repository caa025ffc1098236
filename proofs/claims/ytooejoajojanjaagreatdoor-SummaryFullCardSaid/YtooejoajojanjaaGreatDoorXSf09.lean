/- Texts: Qm Qn Qo Qi Qu Qv Qw Bw. -/
import Derived.Test.YtooejoajojanjaaGreatDoorXSf08
import Derived.RegionTactic
import Derived.Shelf.Spec.SlicesInsert
import Derived.Shelf.Spec.SlicesInsertGrow
import Derived.Test.YtooejoajojanjaaGreatDoorXSf05
namespace Go.Proofs.YtooejoajojanjaaGreatDoor
open Go.RowKit Go.Df
attribute [local go_sem ↓] Go.wp_at_zero Go.wp_at_succ
def GetPop (w : World) (x : Int) (r l : List Int) (ok : Bool) (e : Ending) (w' : World) : Prop :=
 ∃ A1 n1 c1 A2 n2 c2, e = .returned (.tuple #[.int .i64 x, .agg #[.slice A1 n1 c1, .slice A2 n2 c2], .bool ok]) ∧ SIn w' A1 n1 c1 r ∧ SIn w' A2 n2 c2 l ∧ Below w.heap.size w w' ∧ Fr w w' A1 ∧ Fr w w' A2
set_option maxHeartbeats 400000 in
theorem pop_no (A1 A2 : Option Addr) (n1 c1 n2 c2 : Nat) (r l : List Int) (w : World) (hr : Ints w A1 n1 r) (hl : Ints w A2 n2 l) (h : Wl.chk r l ≠ 0 ∨ n2 = 0) :
   Calls Tryz.prog 91 #[.agg #[.slice A1 n1 c1, .slice A2 n2 c2]] w (GetPop w 0 [] [] false) := by
 have HR := Lib.hid hr
 have HL := Lib.hid hl
 clear hr hl
 go_enter Tryz.func91, Tryz.ntmps91
 go_upto_region 1 with fail
 refine wp_named (fun W => ∃ b0 b1, w.heap.size = b0 ∧ w.heap.size + 1 = b1 ∧ Blk W b0 [.slice A1 n1 c1, .slice A2 n2 c2] ∧ Blk W b1 [.slice none 0 0, .slice none 0 0] ∧ Below w.heap.size w W) ⟨_, _, rfl, rfl, ?_, ?_, ?_⟩ ?_
 · exact (Blk.new _ _ _ _ (by first | rfl | simp)).alloc _
 · exact kbn
 · go_grown
 rintro W ⟨b0, b1, e0, e1, B0, B1, hB⟩
 rw [e1, e0]
 have G0 : w.heap.size ≤ b0 := by omega
 have n01 : b0 ≠ b1 := by omega
 have G1 : w.heap.size ≤ b1 := by omega
 have n10 : b1 ≠ b0 := by omega
 clear e0 e1
 have ⟨L0, C0, F0⟩ := B0
 have ⟨L1, C1, F1⟩ := B1
 go_wp2_with fail
 refine (wlck_any _ _ _ _ _ _ r l _ (HR.out.later hB) (HL.out.later hB)).mono ?_
 rintro e w1 ⟨rfl, hb1⟩
 have hk1 : Kept [] W w1 := Kept.call (Kept.refl _ _) hb1
 have ⟨hc1, hf1, hg1⟩ := hk1.rules
 by_cases hz : Wl.chk r l = 0
 · obtain rfl : n2 = 0 := h.resolve_left (fun h => h hz)
   rw [hz]
   clear hz h
   go_wp2_with fail
   refine bodyPost_ret (by simp [results, Tryz.results91, go_sem, *]; rfl) rfl ?_
   have hkf := ((Kept.refl [b1] w1).set b1 0 (.slice none 0 0) (.inl (by simp))).set b1 1 (.slice none 0 0) (.inl (by simp))
   refine ⟨_, _, _, _, _, _, rfl, SIn.nil _, SIn.nil _, ?_, Fr.none _ _, Fr.none _ _⟩
   exact hkf.below (hk1.below hB hB.size (by simp)) (Nat.le_trans hB.size hk1.size) (by simpa using G1)
 · have hz' : (Wl.chk r l != 0) = true := by simpa using hz
   clear h
   go_wp2_with fail
   refine bodyPost_ret (by simp [results, Tryz.results91, go_sem, *]; rfl) rfl ?_
   have hkf := ((Kept.refl [b1] w1).set b1 0 (.slice none 0 0) (.inl (by simp))).set b1 1 (.slice none 0 0) (.inl (by simp))
   refine ⟨_, _, _, _, _, _, rfl, SIn.nil _, SIn.nil _, ?_, Fr.none _ _, Fr.none _ _⟩
   exact hkf.below (hk1.below hB hB.size (by simp)) (Nat.le_trans hB.size hk1.size) (by simpa using G1)
set_option maxHeartbeats 400000 in
theorem pop_two (A1 A2 : Option Addr) (n1 c1 n2 c2 : Nat) (r l : List Int) (w : World) (hr : Ints w A1 n1 r) (hl : Ints w A2 n2 l) (h : Wl.chk r l = 0) (hp : 2 ≤ n2) (hcap : n2 ≤ c2) (hA : A1 = none → n1 = 0) :
   Calls Tryz.prog 91 #[.agg #[.slice A1 n1 c1, .slice A2 n2 c2]] w (GetPop w (gi l 0) r (l.drop 1) true) := by
 have hsz : n1 ≤ 8192 ∧ n2 ≤ 8192 := by
   have h1 := hl.1
   have h2 := hr.1
   rw [Wl.chk] at h
   split at h
   · omega
   · omega
 obtain ⟨s1, s2⟩ := hsz
 have HR := Lib.hid hr
 have HL := Lib.hid hl
 have Hl := Lib.hid hl.1
 have HA := Lib.hid hA
 have HZ := Lib.hid h
 obtain ⟨b, o, rfl, hlt, hc⟩ := hl.at_ (by omega)
 have HC := Lib.hid hc
 clear hr hl hA h hc
 go_enter Tryz.func91, Tryz.ntmps91
 go_upto_region 1 with fail
 refine wp_named (fun W => ∃ b0 b1, w.heap.size = b0 ∧ w.heap.size + 1 = b1 ∧ Blk W b0 [.slice A1 n1 c1, .slice (some ⟨b, o, none⟩) n2 c2] ∧ Blk W b1 [.slice none 0 0, .slice none 0 0] ∧ Below w.heap.size w W) ⟨_, _, rfl, rfl, ?_, ?_, ?_⟩ ?_
 · exact (Blk.new _ _ _ _ (by first | rfl | simp)).alloc _
 · exact kbn
 · go_grown
 rintro W ⟨b0, b1, e0, e1, B0, B1, hB⟩
 rw [e1, e0]
 have G0 : w.heap.size ≤ b0 := by omega
 have n01 : b0 ≠ b1 := by omega
 have G1 : w.heap.size ≤ b1 := by omega
 have n10 : b1 ≠ b0 := by omega
 clear e0 e1
 have ⟨L0, C0, F0⟩ := B0
 have ⟨L1, C1, F1⟩ := B1
 go_wp2_with fail
 refine (wlck_any _ _ _ _ _ _ r l _ (HR.out.later hB) (HL.out.later hB)).mono ?_
 rintro e w1 ⟨rfl, hb1⟩
 rw [HZ.out]
 have hk1 : Kept [] W w1 := Kept.call (Kept.refl _ _) hb1
 have ⟨hc1, hf1, hg1⟩ := hk1.rules
 have z1 : ((n2 : Int) == 0) = false := by simp; omega
 go_wp2_with fail
 refine (clone_any _ _ _ r _ ((HR.out.later hB).kept hk1) (by omega) HA.out).mono ?_
 rintro e w2 ⟨v1, rfl, hown1, hb2⟩
 obtain ⟨A1', c1', hv1, hi1, hge1⟩ := SIn.of_own hown1
 have hk2 : Kept [] W w2 := Kept.call hk1 hb2
 have hlt2 : b < W.heap.size := by have := hB.size; omega
 have HC2 : Hid (∀ i, i < n2 - 1 → w2.cell? ⟨b, o + 1 + i, none⟩ = some (.int .i64 (gi (l.drop 1) i))) := fun i hi => by
   rw [hk2.cell b _ hlt2 (by simp), hB.cell (p := ⟨b, o + 1 + i, none⟩) hlt, show o + 1 + i = o + (1 + i) by omega, HC.out (1 + i) (by omega)]
   rw [gi_lt (by rw [Hl.out]; omega), gi_lt (by rw [List.length_drop, Hl.out]; omega), List.getElem_drop]
 have HI2 : Hid (Ints w2 (some ⟨b, o + 1, none⟩) (n2 - 1) (l.drop 1)) := ⟨by rw [List.length_drop, Hl.out], fun _ => ⟨b, o + 1, rfl, Nat.lt_of_lt_of_le hlt2 hk2.size, HC2.out⟩⟩
 clear hown1
 subst hv1
 go_wp2_with fail
 refine (clone_any _ _ _ (l.drop 1) _ HI2.out (by omega) (fun h => by cases h)).mono ?_
 rintro e w3 ⟨v2, rfl, hown2, hb3⟩
 obtain ⟨A2', c2', hv2, hi2, hge2⟩ := SIn.of_own hown2
 have hk3 : Kept [] W w3 := Kept.call hk2 hb3
 have ⟨L0', C0', F0'⟩ := hk3.blk (by simp) B0
 have ⟨L1', C1', F1'⟩ := hk3.blk (by simp) B1
 have hi1' := hi1.later hb3
 clear hown2
 subst hv2
 go_wp2_with fail
 have hB1 := hk3.blk (by simp) B1
 refine wp_named (fun V => Kept [b1] w3 V ∧ Blk V b1 [.slice A1' n1 c1', .slice A2' (n2 - 1) c2']) ⟨((Kept.refl [b1] w3).set b1 0 _ (.inl (by simp))).set b1 1 _ (.inl (by simp)), (Blk.set2 (hB1.n rfl))⟩ ?_
 rintro V ⟨hkV, BV1⟩
 have BV0 := hkV.blk (by simpa using n01) (hk3.blk (by simp) B0)
 have ⟨L0v, C0v, F0v⟩ := BV0
 have ⟨L1v, C1v, F1v⟩ := BV1
 have hcv : V.cell? ⟨b, o, none⟩ = some (.int .i64 (gi l 0)) := by
   rw [hkV.cell b o (Nat.lt_of_lt_of_le hlt2 hk3.size) (by simp; omega), hk3.cell b o hlt2 (by simp), hB.cell (p := ⟨b, o, none⟩) hlt]
   exact HC.out 0 (by omega)
 clear hc1 hf1 hg1 C0 F0 C1 F1 C0' F0' C1' F1'
 go_region
 refine then_named (fun Wf => Kept [b1] w3 Wf ∧ Blk Wf b1 [.slice A1' n1 c1', .slice A2' (n2 - 1) c2']) ⟨?_, ?_⟩ ?_
 · repeat' first | exact hkV | (with_reducible refine Kept.drew ?_) | (with_reducible refine Kept.set ?_ _ _ _ (Or.inl ?_)) | (simp; done)
 · first | exact Blk.set2 (BV1.n rfl) | exact Blk.drew (Blk.set2 (BV1.n rfl))
 rintro Wf ⟨hkf, ⟨L1f, C1f, F1f⟩⟩
 go_wp2_with fail
 refine bodyPost_ret (by simp [results, Tryz.results91, go_sem, C1f]; rfl) rfl ?_
 refine ⟨_, _, _, _, _, _, rfl, hi1'.keptX hkf (fun _ a ha => ?_), hi2.keptX hkf (fun _ a ha => ?_), ?_, fun a ha => ?_, fun a ha => ?_⟩
 · have := hge1 a ha
   have := hk1.size
   simp; omega
 · have := hge2 a ha
   have := hk2.size
   simp; omega
 · exact hkf.below (hk3.below hB hB.size (by simp)) (Nat.le_trans hB.size hk3.size) (by simpa using G1)
 · have t1 := hge1 a ha; have t2 := hB.size; have t3 := hkf.size; have t4 := hk1.size; have t5 := hb3.size; omega
 · have t1 := hge2 a ha; have t2 := hB.size; have t3 := hkf.size; have t4 := hk2.size; omega
set_option maxHeartbeats 400000 in
theorem pop_one (A1 A2 : Option Addr) (n1 c1 c2 : Nat) (r l : List Int) (w : World) (hr : Ints w A1 n1 r) (hl : Ints w A2 1 l) (h : Wl.chk r l = 0) (hcap : 1 ≤ c2) (hA : A1 = none → n1 = 0) :
   Calls Tryz.prog 91 #[.agg #[.slice A1 n1 c1, .slice A2 1 c2]] w (GetPop w (gi l 0) r (l.drop 1) true) := by
 have hsz : n1 ≤ 8192 ∧ 1 ≤ 8192 := by
   have h1 := hl.1
   have h2 := hr.1
   rw [Wl.chk] at h
   split at h
   · omega
   · omega
 obtain ⟨s1, _⟩ := hsz
 have HR := Lib.hid hr
 have HL := Lib.hid hl
 have Hl := Lib.hid hl.1
 have HA := Lib.hid hA
 have HZ := Lib.hid h
 obtain ⟨b, o, rfl, hlt, hc⟩ := hl.at_ (by omega)
 have HC := Lib.hid hc
 clear hr hl hA h hc
 go_enter Tryz.func91, Tryz.ntmps91
 go_upto_region 1 with fail
 refine wp_named (fun W => ∃ b0 b1, w.heap.size = b0 ∧ w.heap.size + 1 = b1 ∧ Blk W b0 [.slice A1 n1 c1, .slice (some ⟨b, o, none⟩) 1 c2] ∧ Blk W b1 [.slice none 0 0, .slice none 0 0] ∧ Below w.heap.size w W) ⟨_, _, rfl, rfl, ?_, ?_, ?_⟩ ?_
 · exact (Blk.new _ _ _ _ (by first | rfl | simp)).alloc _
 · exact kbn
 · go_grown
 rintro W ⟨b0, b1, e0, e1, B0, B1, hB⟩
 rw [e1, e0]
 have G0 : w.heap.size ≤ b0 := by omega
 have n01 : b0 ≠ b1 := by omega
 have G1 : w.heap.size ≤ b1 := by omega
 have n10 : b1 ≠ b0 := by omega
 clear e0 e1
 have ⟨L0, C0, F0⟩ := B0
 have ⟨L1, C1, F1⟩ := B1
 go_wp2_with fail
 refine (wlck_any _ _ _ _ _ _ r l _ (HR.out.later hB) (HL.out.later hB)).mono ?_
 rintro e w1 ⟨rfl, hb1⟩
 rw [HZ.out]
 have hk1 : Kept [] W w1 := Kept.call (Kept.refl _ _) hb1
 have ⟨hc1, hf1, hg1⟩ := hk1.rules
 go_wp2_with fail
 refine (clone_any _ _ _ r _ ((HR.out.later hB).kept hk1) (by omega) HA.out).mono ?_
 rintro e w2 ⟨v1, rfl, hown1, hb2⟩
 obtain ⟨A1', c1', hv1, hi1, hge1⟩ := SIn.of_own hown1
 have hk2 : Kept [] W w2 := Kept.call hk1 hb2
 have hlt2 : b < W.heap.size := by have := hB.size; omega
 have HD : Hid (l.drop 1 = []) := List.eq_nil_of_length_eq_zero (by rw [List.length_drop, Hl.out])
 clear hown1
 subst hv1
 go_wp2_with fail
 refine (clone_any _ _ _ [] _ (Ints.empty _ _) (by omega) (fun _ => rfl)).mono ?_
 rintro e w3 ⟨v2, rfl, hown2, hb3⟩
 obtain ⟨A2', c2', hv2, hi2, hge2⟩ := SIn.of_own hown2
 have hk3 : Kept [] W w3 := Kept.call hk2 hb3
 have ⟨L0', C0', F0'⟩ := hk3.blk (by simp) B0
 have ⟨L1', C1', F1'⟩ := hk3.blk (by simp) B1
 have hi1' := hi1.later hb3
 clear hown2
 subst hv2
 go_wp2_with fail
 have hB1 := hk3.blk (by simp) B1
 refine wp_named (fun V => Kept [b1] w3 V ∧ Blk V b1 [.slice A1' n1 c1', .slice A2' 0 c2']) ⟨((Kept.refl [b1] w3).set b1 0 _ (.inl (by simp))).set b1 1 _ (.inl (by simp)), (Blk.set2 (hB1.n rfl))⟩ ?_
 rintro V ⟨hkV, BV1⟩
 have BV0 := hkV.blk (by simpa using n01) (hk3.blk (by simp) B0)
 have ⟨L0v, C0v, F0v⟩ := BV0
 have ⟨L1v, C1v, F1v⟩ := BV1
 have hcv : V.cell? ⟨b, o, none⟩ = some (.int .i64 (gi l 0)) := by
   rw [hkV.cell b o (Nat.lt_of_lt_of_le hlt2 hk3.size) (by simp; omega), hk3.cell b o hlt2 (by simp), hB.cell (p := ⟨b, o, none⟩) hlt]
   exact HC.out 0 (by omega)
 clear hc1 hf1 hg1 C0 F0 C1 F1 C0' F0' C1' F1'
 go_region
 refine then_named (fun Wf => Kept [b1] w3 Wf ∧ Blk Wf b1 [.slice A1' n1 c1', .slice A2' 0 c2']) ⟨?_, ?_⟩ ?_
 · repeat' first | exact hkV | (with_reducible refine Kept.drew ?_) | (with_reducible refine Kept.set ?_ _ _ _ (Or.inl ?_)) | (simp; done)
 · first | exact Blk.set2 (BV1.n rfl) | exact Blk.drew (Blk.set2 (BV1.n rfl))
 rintro Wf ⟨hkf, ⟨L1f, C1f, F1f⟩⟩
 go_wp2_with fail
 refine bodyPost_ret (by simp [results, Tryz.results91, go_sem, C1f]; rfl) rfl ?_
 rw [HD.out]
 refine ⟨_, _, _, _, _, _, rfl, hi1'.keptX hkf (fun _ a ha => ?_), hi2.keptX hkf (fun _ a ha => ?_), ?_, fun a ha => ?_, fun a ha => ?_⟩
 · have := hge1 a ha
   have := hk1.size
   simp; omega
 · have := hge2 a ha
   have := hk2.size
   simp; omega
 · exact hkf.below (hk3.below hB hB.size (by simp)) (Nat.le_trans hB.size hk3.size) (by simpa using G1)
 · have t1 := hge1 a ha; have t2 := hB.size; have t3 := hkf.size; have t4 := hk1.size; have t5 := hb3.size; omega
 · have t1 := hge2 a ha; have t2 := hB.size; have t3 := hkf.size; have t4 := hk2.size; omega
end Go.Proofs.YtooejoajojanjaaGreatDoor
namespace Go.Proofs.YtooejoajojanjaaGreatDoor
open Go.RowKit Go.Df Go.Shelf
def insRen : Ren := ⟨fun | 21 => 133 | 27 => 167 | 28 => 168 | 35 => 188 | 39 => 199 | n => n, fun | 22 => 31 | n => n, fun x => x⟩
theorem insLays : Lays2.n21 Tryz.prog insRen where
 mixed := by kernel_rfl
 f21 := by kernel_rfl
 f27 := by kernel_rfl
 f28 := by kernel_rfl
 f35 := by kernel_rfl
 f39 := by kernel_rfl
 t0 := by kernel_rfl
 a0 := fun _ => by kernel_rfl
 z0 := fun _ => by kernel_rfl
 v0 := fun _ => by kernel_rfl
 t3 := by kernel_rfl
 a3 := fun _ => by kernel_rfl
 z3 := fun _ => by kernel_rfl
 v3 := fun _ => by kernel_rfl
 t4 := by kernel_rfl
 a4 := fun _ => by kernel_rfl
 z4 := fun _ => by kernel_rfl
 v4 := fun _ => by kernel_rfl
 t22 := by kernel_rfl
 a22 := fun _ => by kernel_rfl
 z22 := fun _ => by kernel_rfl
 v22 := fun _ => by kernel_rfl
 i3 := by kernel_rfl
def Wl.ins (l : List Int) (i : Nat) (x : Int) : List Int := l.take i ++ x :: l.drop i
theorem Wl.ins_len {l : List Int} {i : Nat} (x : Int) (h : i ≤ l.length) : (Wl.ins l i x).length = l.length + 1 := by
 simp [Wl.ins]; omega
theorem Wl.gi_ins {l : List Int} {i : Nat} (x : Int) (h : i ≤ l.length) (j : Nat) : gi (Wl.ins l i x) j = if j < i then gi l j else if j = i then x else gi l (j - 1) := by
 have hl : (l.take i).length = i := by simp; omega
 simp only [gi, List.getD_eq_getElem?_getD]
 unfold Wl.ins
 by_cases h1 : j < i
 · rw [if_pos h1, List.getElem?_append_left (by omega), List.getElem?_take_of_lt h1]
 · rw [if_neg h1, List.getElem?_append_right (by omega), hl]
   by_cases h2 : j = i
   · subst h2; simp
   · rw [if_neg h2]
     obtain ⟨d, hd⟩ : ∃ d, j - i = d + 1 := ⟨j - i - 1, by omega⟩
     rw [hd, List.getElem?_cons_succ, List.getElem?_drop, show i + d = j - 1 by omega]
def GetIns (w : World) (base : Nat) (v : Value) (xs : List Int) (e : Ending) (w' : World) : Prop :=
 ∃ A n c, e = .returned (.slice A n c) ∧ SIn w' A n c xs ∧ (∀ a, A = some a → base ≤ a.block ∧ (v.ownBlock = some a.block ∨ w.heap.size ≤ a.block)) ∧ Kept v.ownBlock.toList w w'
theorem one_at {w : World} {vb : Nat} {x : Int} (h : w.heap[vb]? = some (.cells #[.int .i64 x] 3 (0, 0))) : ∀ j v, [Value.int .i64 x][j]? = some v → w.cell? ⟨vb, 0 + j, none⟩ = some v := by
 intro j v hv
 simp only [World.cell?, h]
 cases j with
 | zero => simpa using hv
 | succ j => simp at hv
theorem own_cells {cur : Array Value} {n : Nat} {l : List Int} (ht : cur.toList.take n = l.map (Value.int .i64)) (hl : l.length = n) {w : World} {g : Nat} {t : TypeId} {fr : Nat × Nat} (hh : w.heap[g]? = some (.cells cur t fr)) :
   ∀ j v, (l.map (Value.int .i64))[j]? = some v → w.cell? ⟨g, 0 + j, none⟩ = some v := by
 intro j v hv
 have hj : j < n := by
   rcases Nat.lt_or_ge j n with h | h
   · exact h
   · rw [List.getElem?_eq_none (by simp; omega)] at hv; cases hv
 rw [← ht, List.getElem?_take_of_lt hj] at hv
 simp only [World.cell?, hh, Nat.zero_add]
 simpa using hv
theorem ins_ints {w' : World} {b n i : Nat} {l : List Int} {x : Int} (hl : l.length = n) (hi : i ≤ n) (hb : b < w'.heap.size)
   (h1 : ∀ j, j < i → w'.cell? ⟨b, j, none⟩ = some (.int .i64 (gi l j))) (h2 : w'.cell? ⟨b, i, none⟩ = some (.int .i64 x)) (h3 : ∀ j, i ≤ j → j < n → w'.cell? ⟨b, j + 1, none⟩ = some (.int .i64 (gi l j))) :
   Ints w' (some ⟨b, 0, none⟩) (n + 1) (Wl.ins l i x) := by
 refine ⟨by rw [Wl.ins_len x (by omega), hl], fun _ => ⟨b, 0, rfl, hb, fun j hj => ?_⟩⟩
 rw [Wl.gi_ins x (by omega), Nat.zero_add]
 by_cases e1 : j < i
 · rw [if_pos e1]; exact h1 j e1
 · rw [if_neg e1]
   by_cases e2 : j = i
   · rw [if_pos e2]; subst e2; exact h2
   · rw [if_neg e2]
     have := h3 (j - 1) (by omega) (by omega)
     rwa [show j - 1 + 1 = j by omega] at this
theorem insert_own (base n i vb : Nat) (v : Value) (l : List Int) (x : Int) (w : World) (hown : w.ownsRow base 3 1 v n (l.map (Value.int .i64))) (hi : i ≤ n) (hn : n ≤ 100000) (hv : w.heap[vb]? = some (.cells #[.int .i64 x] 3 (0, 0))) (hne : ∀ g, v.ownBlock = some g → vb ≠ g) (hbase : base ≤ w.heap.size) :
   Calls Tryz.prog 133 #[v, .int .i64 i, .slice (some ⟨vb, 0, none⟩) 1 1] w (GetIns w base v (Wl.ins l i x)) := by
 have hl : l.length = n := by simpa using hown.1
 have h1v : ∀ v ∈ [Value.int .i64 x], v.oneCell' = true := by intro u hu; simp at hu; subst hu; rfl
 rcases hown.2 with ⟨rfl, rfl⟩ | ⟨g, cap, cur, rfl, hb, hh, hnc, hcm, hcs, htk⟩
 · obtain rfl : i = 0 := by omega
   obtain rfl : l = [] := List.eq_nil_of_length_eq_zero hl
   refine (Any2.slices_Insert_int_end_grow insLays none 0 0 vb 0 1 1 [] [.int .i64 x] w (by omega) (by omega) (by omega) (by omega) rfl rfl (fun _ => rfl) (fun _ h => by cases h) (one_at hv) h1v).mono ?_
   rintro e w' ⟨rfl, rfl⟩
   refine ⟨_, _, _, rfl, ⟨?_, ?_, ?_, fun h => by cases h⟩, ?_, ?_⟩
   · refine ins_ints rfl (Nat.le_refl _) (by simp) (fun j hj => absurd hj (by omega)) ?_ (fun j h1 h2 => absurd h2 (by omega))
     rw [show w.heap.size = (w.drew).heap.size from rfl, World.cell?_alloc_new, Array.getElem?_append_left (by simp)]
     rfl
   · exact grownCap_ge _ _ _ _
   · exact grownCap_le_maxLen _ _ _ _ (by unfold maxLen; omega)
   · intro a ha; injection ha with ha; subst ha; exact ⟨hbase, .inr (Nat.le_refl _)⟩
   · exact ((Kept.refl _ _).drew).alloc _
 · have hg : g < w.heap.size := by
     rcases Nat.lt_or_ge g w.heap.size with h1 | h1
     · exact h1
     · rw [Array.getElem?_eq_none h1] at hh; cases hh
   simp only [Nat.mul_one] at hcs htk
   have hcells := own_cells htk hl hh
   have hgi : ∀ j, j < n → w.cell? ⟨g, j, none⟩ = some (.int .i64 (gi l j)) := fun j hj => by
     have := hcells j _ (map_gi (by omega)); rwa [Nat.zero_add] at this
   have hsome : ∀ j, j < cap → (w.cell? ⟨g, 0 + j, none⟩).isSome = true := fun j hj => by
     simp only [World.cell?, hh, Nat.zero_add]; simp; omega
   have hfz : ∀ j, w.frozen? ⟨g, j, none⟩ = false := fun j => by simp [World.frozen?, hh]
   have hX : g ∈ (Value.slice (some ⟨g, 0, none⟩) n cap).ownBlock.toList := by simp [Value.ownBlock]
   have h1c : ∀ v ∈ l.map (Value.int .i64), v.oneCell' = true := ints_one l
   have hml : (l.map (Value.int .i64)).length = n := by simpa using hl
   unfold maxLen at hcm
   by_cases hend : i = n
   · subst hend
     by_cases hroom : i + 1 ≤ cap
     · refine (Any2.slices_Insert_int_end_room insLays g 0 i cap vb 0 1 1 [.int .i64 x] w (by omega) hroom (by omega) rfl (fun j hj => by have := hsome (i + j) (by omega); rwa [← Nat.add_assoc] at this) (fun j _ => hfz _) (one_at hv) h1v).mono ?_
       rintro e w' ⟨rfl, rfl⟩
       have hin := World.cell?_setCells_in g [.int .i64 x] (0 + i) w (fun j hj => by simp at hj; subst hj; have := hsome i (by omega); simpa using this) 0 (by simp)
       refine ⟨_, _, _, rfl, ⟨?_, hroom, by omega, fun h => by cases h⟩, ?_, ?_⟩
       · refine ins_ints hl (Nat.le_refl _) (by rw [size_setCells]; exact hg) (fun j hj => ?_) (by simpa using hin) (fun j h1 h2 => absurd h2 (by omega))
         rw [World.cell?_setCells_out g _ _ w _ (fun _ _ => .inl (by simp; omega))]; exact hgi j hj
       · intro a ha; injection ha with ha; subst ha; exact ⟨hb, .inl rfl⟩
       · exact Kept.setCells g (.inl hX) _ _ (Kept.refl _ _)
     · refine (Any2.slices_Insert_int_end_grow insLays (some ⟨g, 0, none⟩) i cap vb 0 1 1 (l.map (Value.int .i64)) [.int .i64 x] w (by omega) hnc (by omega) (by omega) hml rfl (fun h => by cases h) (fun a ha j u hu => by injection ha with ha; subst ha; rw [add_lit]; exact hcells j u hu) (one_at hv) h1v).mono ?_
       rintro e w' ⟨rfl, rfl⟩
       refine ⟨_, _, _, rfl, ⟨?_, ?_, ?_, fun h => by cases h⟩, ?_, ?_⟩
       · refine ins_ints hl (Nat.le_refl _) (by simp) (fun j hj => ?_) ?_ (fun j h1 h2 => absurd h2 (by omega))
         · rw [show w.heap.size = (w.drew).heap.size from rfl, World.cell?_alloc_new, Array.getElem?_append_left (by simp; omega)]
           simp [List.getElem?_append_left, hl, hj, gi_lt]
         · rw [show w.heap.size = (w.drew).heap.size from rfl, World.cell?_alloc_new, Array.getElem?_append_left (by simp; omega)]
           simp [hl]
       · exact grownCap_ge _ _ _ _
       · exact grownCap_le_maxLen _ _ _ _ (by unfold maxLen; omega)
       · intro a ha; injection ha with ha; subst ha; exact ⟨hbase, .inr (Nat.le_refl _)⟩
       · exact ((Kept.refl _ _).drew).alloc _
   · by_cases hroom : n + 1 ≤ cap
     · have hvl : vb < w.heap.size := by
         rcases Nat.lt_or_ge vb w.heap.size with h1 | h1
         · exact h1
         · rw [Array.getElem?_eq_none h1] at hv; cases hv
       refine (Any2.slices_Insert_int_shift insLays g 0 n cap i vb 0 1 1 (l.map (Value.int .i64)) [.int .i64 x] w (by omega) (by omega) hroom (by omega) (hne g rfl) hml rfl hcells (fun j hj => hsome j (by omega)) (fun j _ => hfz _) (one_at hv) h1c h1v 3 3 1 cap (by simp [World.shape?, hv]) (by simp [World.shape?, hh, hcs]) (by omega) (by simp [World.frozen?, hv]) (by simp [World.frozen?, hv])).mono ?_
       rintro e w' ⟨rfl, rfl⟩
       have hdl : ((l.map (Value.int .i64)).drop i).length = n - i := by rw [List.length_drop, hml]
       have hdr : ∀ j, j < n - i → ((l.map (Value.int .i64)).drop i)[j]? = some (.int .i64 (gi l (i + j))) := fun j hj => by
         rw [List.getElem?_drop, map_gi (by omega)]
       have hs1 : ∀ j, j < cap → ((w.drew.setCells g (0 + (i + 1)) ((l.map (Value.int .i64)).drop i)).cell? ⟨g, j, none⟩).isSome = true := fun j hj => isSome_setCells g _ _ _ (fun k hk => by have := hsome (i + 1 + k) (by omega); simpa [Nat.add_assoc] using this) j (by have := hsome j hj; simpa using this)
       refine ⟨_, _, _, rfl, ⟨?_, hroom, by omega, fun h => by cases h⟩, ?_, ?_⟩
       · refine ins_ints hl hi (by rw [size_setCells, size_setCells]; exact hg) (fun j hj => ?_) ?_ (fun j h1 h2 => ?_)
         · rw [World.cell?_setCells_out g _ _ _ _ (fun _ _ => .inl (by simp; omega)), World.cell?_setCells_out g _ _ _ _ (fun _ _ => .inl (by simp; omega))]
           exact hgi j (by omega)
         · have := World.cell?_setCells_in g [.int .i64 x] (0 + i) (w.drew.setCells g (0 + (i + 1)) ((l.map (Value.int .i64)).drop i)) (fun j hj => by simp at hj; subst hj; have := hs1 i (by omega); simpa using this) 0 (by simp)
           simpa using this
         · rw [World.cell?_setCells_out g _ _ _ _ (fun _ _ => .inr (by simp; omega))]
           have := World.cell?_setCells_in g ((l.map (Value.int .i64)).drop i) (0 + (i + 1)) w.drew (fun k hk => by have := hsome (i + 1 + k) (by omega); simpa [Nat.add_assoc] using this) (j - i) (by omega)
           rw [show 0 + (i + 1) + (j - i) = j + 1 by omega] at this
           rw [this]
           have h5 := hdr (j - i) (by omega)
           rw [List.getElem?_eq_getElem (by omega), show i + (j - i) = j by omega] at h5
           exact h5
       · intro a ha; injection ha with ha; subst ha; exact ⟨hb, .inl rfl⟩
       · exact Kept.setCells g (.inl hX) _ _ (Kept.setCells g (.inl hX) _ _ (Kept.refl _ _).drew)
     · refine (Any2.slices_Insert_int_grow insLays g 0 n cap i vb 0 1 1 (l.map (Value.int .i64)) [.int .i64 x] w (by omega) (by omega) hnc (by omega) (by omega) hml rfl hcells (one_at hv) h1c h1v).mono ?_
       rintro e w' ⟨rfl, rfl⟩
       have hge := grownCap_ge w (n + 1) cap (insRen.t 3)
       have hdl : ((l.map (Value.int .i64)).drop i).length = n - i := by rw [List.length_drop, hml]
       have hdr : ∀ j, j < n - i → ((l.map (Value.int .i64)).drop i)[j]? = some (.int .i64 (gi l (i + j))) := fun j hj => by
         rw [List.getElem?_drop, map_gi (by omega)]
       generalize hC : grownCap w (n + 1) cap (insRen.t 3) = C at *
       have hsz : ∀ k, (Builtin.zeroCells (Value.int .i64 0).cells k).size = k := by intro k; simp [Builtin.zeroCells, Value.cells]
       obtain ⟨w1, hw1⟩ : ∃ w1 : World, w1 = (w.alloc (.cells (((l.map (Value.int .i64)).take i).toArray ++ Builtin.zeroCells (Value.int .i64 0).cells (n + 1 - i) ++ Builtin.zeroCells (Value.int .i64 0).cells (C - (n + 1))) (insRen.t 3))) := ⟨_, rfl⟩
       rw [← hw1]
       have hc1 : ∀ j, w1.cell? ⟨w.heap.size, j, none⟩ = (((l.map (Value.int .i64)).take i).toArray ++ Builtin.zeroCells (Value.int .i64 0).cells (n + 1 - i) ++ Builtin.zeroCells (Value.int .i64 0).cells (C - (n + 1)))[j]? := fun j => by rw [hw1, World.cell?_alloc_new]
       have hsome1 : ∀ j, j < n + 1 → (w1.cell? ⟨w.heap.size, j, none⟩).isSome = true := fun j hj => by
         rw [hc1]; simp [hsz, hl]; omega
       have hk1 : Kept (Value.slice (some ⟨g, 0, none⟩) n cap).ownBlock.toList w w1 := by rw [hw1]; exact (Kept.refl _ _).alloc _
       have hz1 : w1.heap.size = w.heap.size + 1 := by rw [hw1]; simp
       refine ⟨_, _, _, rfl, ⟨?_, hge, ?_, fun h => by cases h⟩, ?_, ?_⟩
       · refine ins_ints hl hi (by rw [size_setCells]; show _ < (w1.drew.setCells _ _ _).heap.size; rw [size_setCells]; show _ < w1.heap.size; omega) (fun j hj => ?_) ?_ (fun j h1 h2 => ?_)
         · rw [World.cell?_setCells_out _ _ _ _ _ (fun _ _ => .inl (by simp; omega))]
           show (w1.drew.setCells _ _ _).cell? _ = _
           rw [World.cell?_setCells_out _ _ _ _ _ (fun _ _ => .inl (by simp; omega))]
           show w1.cell? _ = _
           rw [hc1, Array.append_assoc, Array.getElem?_append_left (by simp [hl]; omega)]
           rw [List.getElem?_toArray, List.getElem?_take_of_lt hj, map_gi (by omega)]
         · rw [World.cell?_setCells_out _ _ _ _ _ (fun _ _ => .inl (by simp))]
           show (w1.drew.setCells _ _ _).cell? _ = _
           have := World.cell?_setCells_in w.heap.size [.int .i64 x] i w1.drew (fun j hj => by simp at hj; subst hj; exact hsome1 i (by omega)) 0 (by simp)
           simpa using this
         · have h4 : ∀ k, k < n + 1 → ((w1.drew.setCells w.heap.size i [Value.int .i64 x]).drew.cell? ⟨w.heap.size, k, none⟩).isSome = true := fun k hk => by
             show ((w1.drew.setCells w.heap.size i [Value.int .i64 x]).cell? ⟨w.heap.size, k, none⟩).isSome = true
             exact isSome_setCells _ _ _ _ (fun j hj => by simp at hj; subst hj; exact hsome1 i (by omega)) k (hsome1 k hk)
           have := World.cell?_setCells_in w.heap.size ((l.map (Value.int .i64)).drop i) (i + 1) (w1.drew.setCells w.heap.size i [Value.int .i64 x]).drew (fun k hk => h4 _ (by omega)) (j - i) (by omega)
           rw [show i + 1 + (j - i) = j + 1 by omega] at this
           rw [this]
           have h5 := hdr (j - i) (by omega)
           rw [List.getElem?_eq_getElem (by omega), show i + (j - i) = j by omega] at h5
           exact h5
       · rw [← hC]; exact grownCap_le_maxLen _ _ _ _ (by unfold maxLen; omega)
       · intro a ha; injection ha with ha; subst ha; exact ⟨hbase, .inr (Nat.le_refl _)⟩
       · refine Kept.setCells _ (.inr (Nat.le_refl _)) _ _ (Kept.drew (Kept.setCells _ (.inr (Nat.le_refl _)) _ _ hk1.drew))
end Go.Proofs.YtooejoajojanjaaGreatDoor
namespace Go.Proofs.YtooejoajojanjaaGreatDoor
open Go.RowKit Go.Df
attribute [local go_sem ↓] Go.wp_at_zero Go.wp_at_succ
def Wl.perr (r l : List Int) (x : Int) : Int :=
 if Wl.chk r l ≠ 0 then Wl.chk r l else if Wl.allowed r.length x = false then 4 else if x ∉ l ∧ 8192 ≤ l.length then 3 else 0
theorem Wl.perr_ok {r l : List Int} {x : Int} (h : Wl.perr r l x = 0) : Wl.chk r l = 0 ∧ Wl.allowed r.length x = true ∧ r.length ≤ 8192 ∧ l.length ≤ 8192 ∧ (x ∉ l → l.length < 8192) := by
 have hz : Wl.chk r l = 0 := by
   unfold Wl.perr at h; split at h
   · contradiction
   · rename_i h1; simpa using h1
 have ha : Wl.allowed r.length x = true := by
   unfold Wl.perr at h; rw [hz] at h
   by_cases h2 : Wl.allowed r.length x = true
   · exact h2
   · rw [Bool.not_eq_true] at h2; rw [h2] at h; simp at h
 have hsz : r.length ≤ 8192 ∧ l.length ≤ 8192 := by
   have hz2 := hz
   rw [Wl.chk] at hz2
   split at hz2
   · omega
   · omega
 refine ⟨hz, ha, hsz.1, hsz.2, fun hm => ?_⟩
 unfold Wl.perr at h
 rw [hz, ha] at h
 simp [hm] at h
 omega
theorem Wl.errs_zero {r l : List Int} (n : Nat) : ∀ k, Wl.errs r l k n = 0 → ∀ j, k ≤ j → j < k + n → Wl.err r l j = 0 := by
 induction n with
 | zero => intro k _ j h1 h2; omega
 | succ n ih =>
   intro k h j h1 h2
   rw [Wl.errs] at h
   by_cases e : Wl.err r l k = 0
   · rw [if_pos e] at h
     rcases Nat.eq_or_lt_of_le h1 with rfl | h3
     · exact e
     · exact ih (k + 1) h j (by omega) (by omega)
   · rw [if_neg e] at h; exact absurd h e
theorem Wl.chk_err {r l : List Int} (h : Wl.chk r l = 0) {j : Nat} (hj : j < l.length) : Wl.err r l j = 0 := by
 rw [Wl.chk] at h
 split at h
 · cases h
 · exact Wl.errs_zero _ 0 h j (Nat.zero_le _) (by omega)
theorem Wl.chk_allowed {r l : List Int} (h : Wl.chk r l = 0) {j : Nat} (hj : j < l.length) : Wl.allowed r.length (gi l j) = true := by
 have := Wl.chk_err h hj
 unfold Wl.err at this
 by_cases e : Wl.allowed r.length (gi l j) = false
 · rw [if_pos e] at this; cases this
 · simpa using e
def Wl.placeD (r l : List Int) (x : Int) : Nat → Nat
 | 0 => 0
 | k + 1 => if Wl.before r x (gi l k) = true then Wl.placeD r l x k else k + 1
def Wl.place (r l : List Int) (x : Int) : Nat := if 0 < r.length then Wl.placeD r l x l.length else l.length
theorem Wl.placeD_le (r l : List Int) (x : Int) (k : Nat) : Wl.placeD r l x k ≤ k := by
 induction k with
 | zero => exact Nat.le_refl _
 | succ k ih => rw [Wl.placeD]; split <;> omega
theorem Wl.place_le (r l : List Int) (x : Int) : Wl.place r l x ≤ l.length := by
 unfold Wl.place; split
 · exact Wl.placeD_le _ _ _ _
 · exact Nat.le_refl _
set_option maxHeartbeats 1000000 in
theorem push_new (A1 A2 : Option Addr) (n1 c1 n2 c2 : Nat) (r l : List Int) (x : Int) (w : World) (hr : Ints w A1 n1 r) (hl : Ints w A2 n2 l) (hA1 : A1 = none → n1 = 0) (hA2 : A2 = none → n2 = 0) (h : Wl.perr r l x = 0) (hm : x ∉ l) :
   Calls Tryz.prog 90 #[.agg #[.slice A1 n1 c1, .slice A2 n2 c2], .int .i64 x] w (GetQE w r (Wl.ins l (Wl.place r l x) x) 0) := by
 obtain ⟨hz, ha, s1, s2, s3⟩ := Wl.perr_ok h
 have s4 := s3 hm
 have HI : Hid (∀ j, j < n2 → Wl.allowed n1 (gi l j) = true) := by
   intro j hj; rw [← hr.1]; exact Wl.chk_allowed hz (by rw [hl.1]; exact hj)
 rw [hl.1] at s4
 clear s3
 rw [hr.1] at ha s1
 rw [hl.1] at s2
 have HZ := Lib.hid hz
 have HA := Lib.hid ha
 have HA1 := Lib.hid hA1
 have HA2 := Lib.hid hA2
 have HM : Hid (decide (x ∈ l) = false) := Lib.hid (by simpa using hm)
 have HR := Lib.hid hr
 have Hr := Lib.hid hr.1
 have Hl := Lib.hid hl.1
 have HL := Lib.hid hl
 clear hz ha hA1 hA2 hm h hr hl
 go_enter Tryz.func90, Tryz.ntmps90
 go_upto_region 1 with fail
 refine wp_named (fun W => ∃ b0 b1, w.heap.size = b0 ∧ w.heap.size + 1 = b1 ∧ Blk W b0 [.slice A1 n1 c1, .slice A2 n2 c2] ∧ Blk W b1 [.slice none 0 0, .slice none 0 0] ∧ Below w.heap.size w W) ⟨_, _, rfl, rfl, ?_, ?_, ?_⟩ ?_
 · exact (Blk.new _ _ _ _ (by first | rfl | simp)).alloc _
 · exact kbn
 · go_grown
 rintro W ⟨b0, b1, e0, e1, B0, B1, hB⟩
 rw [e1, e0]
 have G0 : w.heap.size ≤ b0 := by omega
 have n01 : b0 ≠ b1 := by omega
 have G1 : w.heap.size ≤ b1 := by omega
 have n10 : b1 ≠ b0 := by omega
 clear e0 e1
 have ⟨L0, C0, F0⟩ := B0
 have ⟨L1, C1, F1⟩ := B1
 go_wp2_with fail
 refine (wlck_any _ _ _ _ _ _ r l _ (HR.out.later hB) (HL.out.later hB)).mono ?_
 rintro e w1 ⟨rfl, hb1⟩
 have hk1 : Kept [] W w1 := Kept.call (Kept.refl _ _) hb1
 have ⟨hc1, hf1, hg1⟩ := hk1.rules
 rw [HZ.out]
 go_wp2_with fail
 refine (allowed_any _ _ _ _ _ _ _ _).mono ?_
 rintro e w2 ⟨rfl, hb2⟩
 rw [HA.out]
 have hk2 : Kept [] W w2 := Kept.call hk1 hb2
 have ⟨hc2, hf2, hg2⟩ := hk2.rules
 go_wp2_with fail
 refine (contains_any _ _ _ l _ _ ((HL.out.later hB).kept hk2) (by omega)).mono ?_
 rintro e w3 ⟨rfl, rfl⟩
 rw [HM.out]
 have BW0 := hk2.blk (by simp) B0
 have BW1 := hk2.blk (by simp) B1
 have HRV := Lib.hid ((HR.out.later hB).kept hk2)
 have HLV := Lib.hid ((HL.out.later hB).kept hk2)
 have hBV := hk2.below hB hB.size (by simp)
 have hWV := hk2.size
 clear hc1 hf1 hg1 hc2 hf2 hg2 B0 B1 L0 C0 F0 L1 C1 F1 hk1 hk2 hb1 hb2
 have ⟨L0, C0, F0⟩ := BW0
 have ⟨L1, C1, F1⟩ := BW1
 have hd : decide ((8192 : Int) ≤ n2) = false := by simp; omega
 go_upto_region 9 with fail
 go_cut [8] (fun s wx => ∃ (g : Nat) (A3 A4 : Option Addr) (c3 c4 : Nat), s = .pointer (some ⟨g, 0, none⟩) ∧ Blk wx g [.slice A3 n1 c3, .slice A4 n2 c4] ∧ wx.ownsRow w2.heap.size 3 1 (.slice A3 n1 c3) n1 (r.map (Value.int .i64)) ∧ wx.ownsRow w2.heap.size 3 1 (.slice A4 n2 c4) n2 (l.map (Value.int .i64)) ∧ Hid (∀ h, (Value.slice A4 n2 c4).ownBlock = some h → h ≠ g) ∧ Hid (∀ h, (Value.slice A3 n1 c3).ownBlock = some h → h ≠ g ∧ ∀ k, (Value.slice A4 n2 c4).ownBlock = some k → h ≠ k) ∧ Kept [] w2 wx ∧ w2.heap.size ≤ g)
 case first =>
   go_region_held3 (fun w' => SX0 w2 w') (exact kp0)
     (first | (go_at_call 127; ((with_reducible refine (clone_any A1 n1 c1 r _ (HRV.out.kept (by first | exact (by assumption : SX0 w2 _).1)) (by omega) HA1.out).mono ?_)); rintro e w3 ⟨v1, rfl, hown1, hb3⟩; obtain ⟨A3, c3, rfl⟩ := own_slice hown1; have ho1 := own_rng hown1; obtain ⟨hc3, hf3, hg3⟩ := bcell hb3; have hz3 := hb3.size; try simp at hz3) | (go_at_call 127; ((with_reducible refine (clone_any A2 n2 c2 l _ (HLV.out.kept (by first | exact (by assumption : SX0 w2 _).1)) (by omega) HA2.out).mono ?_)); rintro e w4 ⟨v2, rfl, hown2, hb4⟩; obtain ⟨A4, c4, rfl⟩ := own_slice hown2; have ho2 := own_rng hown2; obtain ⟨hc4, hf4, hg4⟩ := bcell hb4; have hz4 := hb4.size; try simp at hz4))
   all_goals
     go_wp2_with fail
     go_meet
     refine ⟨_, A3, A4, c3, c4, rfl, ?_, ?_, ?_, ?_, ?_, ?_, ?_⟩
     · (exact kpb)
     · refine own_base (base := ?_) ?_ ?_
       rotate_left
       · repeat' first | (with_reducible assumption) | (with_reducible refine own_later ?_ (by assumption)) | (with_reducible refine own_alloc ?_ _) | (with_reducible refine own_drew ?_) | (with_reducible refine own_set ?_ _ _ _ ?_) | (intro g hg; have := (ho1.out g hg); first | omega | (simp at this; omega))
       · first | (simp; done) | omega | (simp; omega)
     · refine own_base (base := ?_) ?_ ?_
       rotate_left
       · repeat' first | (with_reducible assumption) | (with_reducible refine own_later ?_ (by assumption)) | (with_reducible refine own_alloc ?_ _) | (with_reducible refine own_drew ?_) | (with_reducible refine own_set ?_ _ _ _ ?_) | (intro g hg; have := (ho2.out g hg); first | omega | (simp at this; omega))
       · first | (simp; done) | omega | (simp; omega)
     · exact Lib.hid (fun h hh => by have := ho2.out h hh; first | omega | (simp at this; omega))
     · refine Lib.hid (fun h hh => ?_)
       have t1 := ho1.out h hh
       refine ⟨?_, fun k hk => ?_⟩
       · first | omega | (simp at t1; omega)
       · have t2 := ho2.out k hk
         first | omega | (simp at t1 t2; omega)
     · (exact kpt0)
     · first | (simp; done) | omega | (simp; omega)
 case rest =>
   obtain ⟨g, A3, A4, c3, c4, rfl, Bg, hown1, hown2, hne4, hne3, kc, Hg⟩ := hcut
   have ⟨Lg, Cg, Fg⟩ := Bg
   have ⟨L0', C0', F0'⟩ := kc.blk (by simp) BW0
   have BX1 := kc.blk (by simp) BW1
   have ⟨L1', C1', F1'⟩ := BX1
   have hne : b1 ≠ g := by omega
   clear C0 F0 C1 F1
   obtain ⟨A3', c3', hv3, hi3, hge3⟩ := SIn.of_own hown1
   obtain ⟨A4', c4', hv4, hi4, hge4⟩ := SIn.of_own hown2
   injection hv3 with e1 _ e2
   injection hv4 with e3 _ e4
   subst e1 e2 e3 e4
   have HI3 := Lib.hid hi3
   have HI4 := Lib.hid hi4
   have HG3 := Lib.hid hge3
   have HG4 := Lib.hid hge4
   have HO2 := Lib.hid hown2
   clear hown1 hown2 hi3 hi4 hge3 hge4
   by_cases hz : n1 = 0
   · have z1 : decide (0 < n1) = false := by simp; omega
     have z2 : decide ((0 : Int) < (n1 : Int)) = false := by simp; omega
     have hpl : Hid (Wl.place r l x = n2) := by
       show Wl.place r l x = n2
       unfold Wl.place; rw [Hr.out, if_neg (by omega), Hl.out]
     clear hz
     go_wp2_with fail
     rw [show ((n2 : Nat) : Int) = ((Wl.place r l x : Nat) : Int) by rw [hpl.out]]
     refine (insert_own w2.heap.size n2 (Wl.place r l x) _ _ l x _ (own_alloc HO2.out _) (by rw [← Hl.out]; exact Wl.place_le r l x) (by omega) (heap_alloc_new _ _) (fun h hh => by have := own_lt HO2.out hh; omega) (by simp; omega)).mono ?_
     rintro e w5 ⟨A5, n5, c5, rfl, hi5, hge5, hk5⟩
     have HI5 := Lib.hid hi5
     have HG5 := Lib.hid hge5
     have hXg : g ∉ (Value.slice A4 n2 c4).ownBlock.toList := fun hh => hne4.out g (by simpa using hh) rfl
     have hXb : b1 ∉ (Value.slice A4 n2 c4).ownBlock.toList := fun hh => by have := own_ge HO2.out (g := b1) (by simpa using hh); omega
     have BG5 := hk5.blk hXg (Bg.alloc _)
     have BB5 := hk5.blk hXb (BX1.alloc _)
     have ⟨Lg5, Cg5, Fg5⟩ := BG5
     have ⟨Lb5, Cb5, Fb5⟩ := BB5
     have HI35 := Lib.hid (HI3.out)
     clear hi5 hge5 Cg Fg C0' F0' C1' F1'
     go_wp2_with fail
     have hkf := ((((Kept.refl [g, b1] w5).set g 1 (.slice A5 n5 c5) (.inl (by simp))).set b1 0 (.slice A3 n1 c3) (.inl (by simp))).set b1 1 (.slice A5 n5 c5) (.inl (by simp)))
     have ⟨L1f, C1f, F1f⟩ := (Blk.set2 (v0 := .slice A3 n1 c3) (v1 := .slice A5 n5 c5) ((BB5.setOther g 1 (.slice A5 n5 c5) (Ne.symm hne)).n rfl))
     refine bodyPost_ret (by simp [results, Tryz.results90, go_sem, C1f]; rfl) rfl ?_
     refine ⟨_, _, _, _, _, _, rfl, ((HI3.out.later ((Below.refl _ _).alloc (Nat.le_refl _) _)).keptX hk5 (fun _ a ha hh => ?_)).keptX hkf (fun _ a ha => ?_), HI5.out.keptX hkf (fun _ a ha => ?_), ?_, fun a ha => ?_, fun a ha => ?_⟩
     · subst ha; exact (hne3.out a.block rfl).2 a.block (by simpa using hh) rfl
     · subst ha
       have t1 := (hne3.out a.block rfl).1
       have := HG3.out a rfl
       simp; omega
     · obtain ⟨t5, t6⟩ := HG5.out a ha
       rcases t6 with t6 | t6
       · have := hne4.out _ t6
         simp; omega
       · have h2 := kc.size
         simp at t6; simp; omega
     · refine Kept.below (X := [g, b1]) (Kept.below (X := (Value.slice A4 n2 c4).ownBlock.toList) (Kept.below (X := []) (kc.below hBV hBV.size (by simp)) (Nat.le_trans hBV.size kc.size) (by simp) ((Kept.refl _ _).alloc _)) ?_ ?_ hk5) ?_ ?_ hkf
       · have h1 := hBV.size; have h2 := kc.size; simp; omega
       · intro y hy; have := own_ge HO2.out (g := y) (by simpa using hy); have h1 := hBV.size; omega
       · have h1 := hBV.size; have h2 := kc.size; have h3 := hk5.size; simp at h3; omega
       · have h1 := hBV.size; simp; omega
     · have t1 := HG3.out a ha; have t2 := hBV.size; have t3 := hkf.size; have t4 := hk5.size; have t5 := kc.size; simp at t4; first | omega | (have t7 := HKR.out.size; omega)
     · have t1 := HG5.out a ha; have t2 := hBV.size; have t3 := hkf.size; have t5 := HI5.out.inW (by simp [Wl.ins]) ha; omega
   · have z1 : decide (0 < n1) = true := by simp; omega
     have z2 : decide ((0 : Int) < (n1 : Int)) = true := by simp; omega
     have z3 : 0 < n1 := by omega
     clear hz
     go_wp2_with fail
     go_loopw [9] (fun p wr => ∃ k q : Nat, k ≤ n2 ∧ p = .int .i64 k ∧ wr = wc.drewN q ∧ Hid (Wl.placeD r l x n2 = Wl.placeD r l x k)) (fun p _ => (intOf p).toNat)
     case atStart => exact ⟨n2, 0, Nat.le_refl _, rfl, rfl, Lib.hid rfl⟩
     case round =>
       obtain ⟨k, q, hk, rfl, hwr, hpk⟩ := hrel
       have BgR : Blk wr g [.slice A3 n1 c3, .slice A4 n2 c4] := by rw [hwr]; exact Bg
       have BbR : Blk wr b1 [.slice none 0 0, .slice none 0 0] := by rw [hwr]; exact BX1
       have HR3 : Hid (SIn wr A3 n1 c3 r) := by rw [hwr]; exact HI3.out
       have HR4 : Hid (SIn wr A4 n2 c4 l) := by rw [hwr]; exact HI4.out
       have HOR : Hid (wr.ownsRow w2.heap.size 3 1 (.slice A4 n2 c4) n2 (l.map (Value.int .i64))) := by rw [hwr]; exact HO2.out
       have HKR : Hid (Kept [] wc wr) := by rw [hwr]; exact (Kept.refl _ _).drewN _
       have HW := Lib.hid hwr
       clear hwr Bg Lg Cg Fg L0' C0' F0' BX1 L1' C1' F1' HI4 HO2
       have ⟨Lg, Cg, Fg⟩ := BgR
       have ⟨L1', C1', F1'⟩ := BbR
       by_cases hk0 : k = 0
       · have hpl : Hid (Wl.place r l x = k) := by
           show Wl.place r l x = k
           unfold Wl.place; rw [Hr.out, if_pos z3, Hl.out, hpk.out, hk0]; rfl
         have y1 : decide (0 < k) = false := by simp; omega
         have y2 : decide ((0 : Int) < (k : Int)) = false := by simp; omega
         clear hk0
         go_wp2_with fail
         go_quiet (fail)
         go_wp2_with fail
         rw [show ((k : Nat) : Int) = ((Wl.place r l x : Nat) : Int) by rw [hpl.out]]
         refine (insert_own w2.heap.size n2 (Wl.place r l x) _ _ l x _ (own_alloc (own_drewN HOR.out _) _) (by rw [← Hl.out]; exact Wl.place_le r l x) (by omega) (heap_alloc_new _ _) (fun h hh => by have := own_lt HOR.out hh; first | omega | (simp; omega)) (by have h7 := HKR.out.size; have h8 := kc.size; simp; omega)).mono ?_
         rintro e w5 ⟨A5, n5, c5, rfl, hi5, hge5, hk5⟩
         have HI5 := Lib.hid hi5
         have HG5 := Lib.hid hge5
         have hXg : g ∉ (Value.slice A4 n2 c4).ownBlock.toList := fun hh => hne4.out g (by simpa using hh) rfl
         have hXb : b1 ∉ (Value.slice A4 n2 c4).ownBlock.toList := fun hh => by have := own_ge HOR.out (g := b1) (by simpa using hh); omega
         have BG5 := hk5.blk hXg ((BgR.drewN _).alloc _)
         have BB5 := hk5.blk hXb ((BbR.drewN _).alloc _)
         have ⟨Lg5, Cg5, Fg5⟩ := BG5
         have ⟨Lb5, Cb5, Fb5⟩ := BB5
         have HI35 := Lib.hid (HR3.out)
         clear hi5 hge5 Cg Fg C1' F1'
         go_wp2_with fail
         have hkf := ((((Kept.refl [g, b1] w5).set g 1 (.slice A5 n5 c5) (.inl (by simp))).set b1 0 (.slice A3 n1 c3) (.inl (by simp))).set b1 1 (.slice A5 n5 c5) (.inl (by simp)))
         have ⟨L1f, C1f, F1f⟩ := (Blk.set2 (v0 := .slice A3 n1 c3) (v1 := .slice A5 n5 c5) ((BB5.setOther g 1 (.slice A5 n5 c5) (Ne.symm hne)).n rfl))
         refine bodyPost_ret (by simp [results, Tryz.results90, go_sem, C1f]; rfl) rfl ?_
         refine ⟨_, _, _, _, _, _, rfl, (((HR3.out.drewN _).later ((Below.refl _ _).alloc (Nat.le_refl _) _)).keptX hk5 (fun _ a ha hh => ?_)).keptX hkf (fun _ a ha => ?_), HI5.out.keptX hkf (fun _ a ha => ?_), ?_, fun a ha => ?_, fun a ha => ?_⟩
         · subst ha; exact (hne3.out a.block rfl).2 a.block (by simpa using hh) rfl
         · subst ha
           have t1 := (hne3.out a.block rfl).1
           have := HG3.out a rfl
           simp; omega
         · obtain ⟨t5, t6⟩ := HG5.out a ha
           rcases t6 with t6 | t6
           · have := hne4.out _ t6
             simp; omega
           · have h2 := kc.size
             have h7 := HKR.out.size
             simp at t6; simp; omega
         · refine Kept.below (X := [g, b1]) (Kept.below (X := (Value.slice A4 n2 c4).ownBlock.toList) (Kept.below (X := []) (kc.below hBV hBV.size (by simp)) (Nat.le_trans hBV.size kc.size) (by simp) (((HKR.out).drewN _).alloc _)) ?_ ?_ hk5) ?_ ?_ hkf
           · have h1 := hBV.size; have h2 := kc.size; have h7 := HKR.out.size; simp; omega
           · intro y hy; have := own_ge HOR.out (g := y) (by simpa using hy); have h1 := hBV.size; omega
           · have h1 := hBV.size; have h2 := kc.size; have h3 := hk5.size; have h7 := HKR.out.size; simp at h3; omega
           · have h1 := hBV.size; simp; omega
         · have t1 := HG3.out a ha; have t2 := hBV.size; have t3 := hkf.size; have t4 := hk5.size; have t5 := kc.size; simp at t4; first | omega | (have t7 := HKR.out.size; omega)
         · have t1 := HG5.out a ha; have t2 := hBV.size; have t3 := hkf.size; have t5 := HI5.out.inW (by simp [Wl.ins]) ha; omega
       · have y1 : decide (0 < k) = true := by simp; omega
         have y2 : decide ((0 : Int) < (k : Int)) = true := by simp; omega
         have y3 : 0 < k := by omega
         have hal := HI.out (k - 1) (by omega)
         obtain ⟨p0, p1, p2⟩ := Wl.allowed_lt hal s1
         obtain ⟨q0, q1, q2⟩ := Wl.allowed_lt HA.out s1
         have p3 := p2 z3
         have q3 := q2 z3
         obtain ⟨b4, o4, e4, l4, c4'⟩ := HR4.out.1.at_ (by omega)
         subst e4
         have hcell : wr.cell? ⟨b4, o4 + (k - 1), none⟩ = some (.int .i64 (gi l (k - 1))) := c4' (k - 1) (by omega)
         clear hk0 hal p2 q2 c4'
         by_cases hbf : Wl.before r x (gi l (k - 1)) = true
         · have hpk' : Hid (Wl.placeD r l x n2 = Wl.placeD r l x (k - 1)) := by
             show Wl.placeD r l x n2 = _
             rw [hpk.out]
             obtain ⟨m, rfl⟩ : ∃ m, k = m + 1 := ⟨k - 1, by omega⟩
             rw [Wl.placeD, if_pos (by simpa using hbf)]; rfl
           go_wp2_with fail
           go_quiet ((go_at_call 132; exact Calls.quiet_of (before_q _ _ _ r _ _ _ (show Ints (World.drewN wr _) A3 n1 r from HR3.out.1) (by omega) (by omega) (by omega) (by omega))))
           go_wp2_with fail
           exact ⟨⟨k - 1, q + nq, by omega, by go_num, by rw [HW.out]; exact World.drewN_drewN _ _ _, hpk'⟩, by simp [intOf]; omega⟩
         · rw [Bool.not_eq_true] at hbf
           have hpl : Hid (Wl.place r l x = k) := by
             show Wl.place r l x = k
             unfold Wl.place; rw [Hr.out, if_pos z3, Hl.out, hpk.out]
             obtain ⟨m, rfl⟩ : ∃ m, k = m + 1 := ⟨k - 1, by omega⟩
             rw [Wl.placeD, if_neg (by simpa using hbf)]
           go_wp2_with fail
           go_quiet ((go_at_call 132; exact Calls.quiet_of (before_q _ _ _ r _ _ _ (show Ints (World.drewN wr _) A3 n1 r from HR3.out.1) (by omega) (by omega) (by omega) (by omega))))
           go_wp2_with fail
           rw [show ((k : Nat) : Int) = ((Wl.place r l x : Nat) : Int) by rw [hpl.out]]
           refine (insert_own w2.heap.size n2 (Wl.place r l x) _ _ l x _ (own_alloc (own_drewN HOR.out _) _) (by rw [← Hl.out]; exact Wl.place_le r l x) (by omega) (heap_alloc_new _ _) (fun h hh => by have := own_lt HOR.out hh; first | omega | (simp; omega)) (by have h7 := HKR.out.size; have h8 := kc.size; simp; omega)).mono ?_
           rintro e w5 ⟨A5, n5, c5, rfl, hi5, hge5, hk5⟩
           have HI5 := Lib.hid hi5
           have HG5 := Lib.hid hge5
           have hXg : g ∉ (Value.slice (some ⟨b4, o4, none⟩) n2 c4).ownBlock.toList := fun hh => hne4.out g (by simpa using hh) rfl
           have hXb : b1 ∉ (Value.slice (some ⟨b4, o4, none⟩) n2 c4).ownBlock.toList := fun hh => by have := own_ge HOR.out (g := b1) (by simpa using hh); omega
           have BG5 := hk5.blk hXg ((BgR.drewN _).alloc _)
           have BB5 := hk5.blk hXb ((BbR.drewN _).alloc _)
           have ⟨Lg5, Cg5, Fg5⟩ := BG5
           have ⟨Lb5, Cb5, Fb5⟩ := BB5
           have HI35 := Lib.hid (HR3.out)
           clear hi5 hge5 Cg Fg C1' F1'
           go_wp2_with fail
           have hkf := ((((Kept.refl [g, b1] w5).set g 1 (.slice A5 n5 c5) (.inl (by simp))).set b1 0 (.slice A3 n1 c3) (.inl (by simp))).set b1 1 (.slice A5 n5 c5) (.inl (by simp)))
           have ⟨L1f, C1f, F1f⟩ := (Blk.set2 (v0 := .slice A3 n1 c3) (v1 := .slice A5 n5 c5) ((BB5.setOther g 1 (.slice A5 n5 c5) (Ne.symm hne)).n rfl))
           refine bodyPost_ret (by simp [results, Tryz.results90, go_sem, C1f]; rfl) rfl ?_
           refine ⟨_, _, _, _, _, _, rfl, (((HR3.out.drewN _).later ((Below.refl _ _).alloc (Nat.le_refl _) _)).keptX hk5 (fun _ a ha hh => ?_)).keptX hkf (fun _ a ha => ?_), HI5.out.keptX hkf (fun _ a ha => ?_), ?_, fun a ha => ?_, fun a ha => ?_⟩
           · subst ha; exact (hne3.out a.block rfl).2 a.block (by simpa using hh) rfl
           · subst ha
             have t1 := (hne3.out a.block rfl).1
             have := HG3.out a rfl
             simp; omega
           · obtain ⟨t5, t6⟩ := HG5.out a ha
             rcases t6 with t6 | t6
             · have := hne4.out _ t6
               simp; omega
             · have h2 := kc.size
               have h7 := HKR.out.size
               simp at t6; simp; omega
           · refine Kept.below (X := [g, b1]) (Kept.below (X := (Value.slice (some ⟨b4, o4, none⟩) n2 c4).ownBlock.toList) (Kept.below (X := []) (kc.below hBV hBV.size (by simp)) (Nat.le_trans hBV.size kc.size) (by simp) (((HKR.out).drewN _).alloc _)) ?_ ?_ hk5) ?_ ?_ hkf
             · have h1 := hBV.size; have h2 := kc.size; have h7 := HKR.out.size; simp; omega
             · intro y hy; have := own_ge HOR.out (g := y) (by simpa using hy); have h1 := hBV.size; omega
             · have h1 := hBV.size; have h2 := kc.size; have h3 := hk5.size; have h7 := HKR.out.size; simp at h3; omega
             · have h1 := hBV.size; simp; omega
           · have t1 := HG3.out a ha; have t2 := hBV.size; have t3 := hkf.size; have t4 := hk5.size; have t5 := kc.size; simp at t4; first | omega | (have t7 := HKR.out.size; omega)
           · have t1 := HG5.out a ha; have t2 := hBV.size; have t3 := hkf.size; have t5 := HI5.out.inW (by simp [Wl.ins]) ha; omega
end Go.Proofs.YtooejoajojanjaaGreatDoor
namespace Go.Df
open Go.RowKit
structure Fx (O O' : Nat → Prop) (w w' : World) : Prop where
 os : w'.os = w.os
 tape : w'.tape = w.tape
 output : w'.output = w.output
 size : w.heap.size ≤ w'.heap.size
 blk : ∀ x, x < w.heap.size → ¬ O x → w'.heap[x]? = w.heap[x]?
 own : ∀ x, O' x → O x ∨ w.heap.size ≤ x
theorem Fx.refl (O : Nat → Prop) (w : World) : Fx O O w w := ⟨rfl, rfl, rfl, Nat.le_refl _, fun _ _ _ => rfl, fun _ h => .inl h⟩
theorem Fx.trans {O O' O'' : Nat → Prop} {w w' w'' : World} (h : Fx O O' w w') (k : Fx O' O'' w' w'') : Fx O O'' w w'' :=
 ⟨k.os.trans h.os, k.tape.trans h.tape, k.output.trans h.output, Nat.le_trans h.size k.size, fun x hx hn => (k.blk x (Nat.lt_of_lt_of_le hx h.size) (fun ho => by rcases h.own x ho with h1 | h1; exact hn h1; omega)).trans (h.blk x hx hn),
   fun x hx => by
     rcases k.own x hx with h1 | h1
     · exact h.own x h1
     · have := h.size; exact .inr (by omega)⟩
theorem Fx.same {O : Nat → Prop} {w w' : World} (h : Kept [] w w') : Fx O O w w' := ⟨h.os, h.tape, h.output, h.size, fun x hx _ => h.block x hx (by simp), fun _ h => .inl h⟩
theorem Fx.call {O O' : Nat → Prop} {w w' w'' : World} (h : Fx O O' w w') (hb : Below w'.heap.size w' w'') : Fx O O' w w'' := h.trans (.same ((Kept.refl _ _).call hb))
theorem Fx.of {O O' : Nat → Prop} {X : List Nat} {w w' : World} (h : Kept X w w') (hX : ∀ x ∈ X, O x ∨ w.heap.size ≤ x) (hO : ∀ x, O' x → O x ∨ w.heap.size ≤ x) : Fx O O' w w' :=
 ⟨h.os, h.tape, h.output, h.size, fun x hx hn => h.block x hx (fun hm => by rcases hX x hm with h1 | h1; exact hn h1; omega), hO⟩
theorem Fx.below {O O' : Nat → Prop} {w0 w w' : World} (h : Fx O O' w w') (hb : Below w0.heap.size w0 w) (hO : ∀ x, O x → w0.heap.size ≤ x) : Below w0.heap.size w0 w' :=
 ⟨h.os.trans hb.os, h.tape.trans hb.tape, h.output.trans hb.output, Nat.le_trans hb.size h.size, fun k hk => (h.blk k (Nat.lt_of_lt_of_le hk hb.size) (fun ho => by have := hO k ho; omega)).trans (hb.block k hk)⟩
def SafeB (O : Nat → Prop) (w : World) (x : Nat) : Prop := x < w.heap.size ∧ ¬ O x
theorem SafeB.fx {O O' : Nat → Prop} {w w' : World} {x : Nat} (h : SafeB O w x) (f : Fx O O' w w') : SafeB O' w' x :=
 ⟨Nat.lt_of_lt_of_le h.1 f.size, fun ho => by rcases f.own x ho with h1 | h1; exact h.2 h1; have := h.1; omega⟩
theorem SafeB.heap {O O' : Nat → Prop} {w w' : World} {x : Nat} (h : SafeB O w x) (f : Fx O O' w w') : w'.heap[x]? = w.heap[x]? := f.blk x h.1 h.2
theorem SafeB.cell {O O' : Nat → Prop} {w w' : World} {x : Nat} (h : SafeB O w x) (f : Fx O O' w w') (i : Nat) : w'.cell? ⟨x, i, none⟩ = w.cell? ⟨x, i, none⟩ := World.cell?_of_block (w := w) (h.heap f)
theorem SafeB.blk {O O' : Nat → Prop} {w w' : World} {x : Nat} {C : List Value} (h : SafeB O w x) (f : Fx O O' w w') (hb : Blk w x C) : Blk w' x C :=
 ⟨(h.fx f).1, fun i => (h.cell f i).trans (hb.2.1 i), fun i => (World.frozen?_of_block (w := w) (h.heap f)).trans (hb.2.2 i)⟩
def SInO (O : Nat → Prop) (w : World) (A : Option Addr) (n c : Nat) (l : List Int) : Prop := SIn w A n c l ∧ (0 < n → ∀ a, A = some a → SafeB O w a.block)
theorem SInO.fx {O O' : Nat → Prop} {w w' : World} {A : Option Addr} {n c : Nat} {l : List Int} (h : SInO O w A n c l) (f : Fx O O' w w') : SInO O' w' A n c l := by
 refine ⟨⟨⟨h.1.1.1, fun hn => ?_⟩, h.1.2⟩, fun hn a ha => (h.2 hn a ha).fx f⟩
 obtain ⟨b, o, e, hl, hc⟩ := h.1.1.2 hn
 have hs := h.2 hn _ e
 exact ⟨b, o, e, (hs.fx f).1, fun i hi => (hs.cell f (o + i)).trans (hc i hi)⟩
theorem SInO.new {O : Nat → Prop} {w w' : World} {A : Option Addr} {n c : Nat} {l : List Int} (h : SIn w' A n c l) (hf : Fr w w' A) (hO : ∀ x, O x → x < w.heap.size) : SInO O w' A n c l :=
 ⟨h, fun _ a ha => ⟨(hf a ha).2, fun ho => by have := hO _ ho; have := (hf a ha).1; omega⟩⟩
def RowsC (O : Nat → Prop) (w : World) (r N : Nat) (f : Nat → List Int) : Prop := SafeB O w r ∧ ∀ i, i < N → ∃ A n c, w.cell? ⟨r, i, none⟩ = some (.slice A n c) ∧ SInO O w A n c (f i)
theorem RowsC.fx {O O' : Nat → Prop} {w w' : World} {r N : Nat} {f : Nat → List Int} (h : RowsC O w r N f) (g : Fx O O' w w') : RowsC O' w' r N f :=
 ⟨h.1.fx g, fun i hi => by
   obtain ⟨A, n, c, h1, h2⟩ := h.2 i hi
   exact ⟨A, n, c, (h.1.cell g i).trans h1, h2.fx g⟩⟩
def pcells (l : List (Nat × Nat)) : List Value := l.flatMap fun x => [.int .i64 (x.1 : Int), .int .i64 (x.2 : Int)]
theorem pcells_snoc (l : List (Nat × Nat)) (x : Nat × Nat) : pcells (l ++ [x]) = pcells l ++ [.int .i64 (x.1 : Int), .int .i64 (x.2 : Int)] := by simp [pcells]
theorem pcells_at : ∀ (l : List (Nat × Nat)) {i : Nat} (h : i < l.length), (pcells l)[i * 2]? = some (.int .i64 ((l[i]).1 : Int)) ∧ (pcells l)[i * 2 + 1]? = some (.int .i64 ((l[i]).2 : Int))
 | x :: l, 0, _ => by simp [pcells]
 | x :: l, i + 1, h => by
   have h1 := pcells_at l (i := i) (by simpa using h)
   have e : pcells (x :: l) = [.int .i64 (x.1 : Int), .int .i64 (x.2 : Int)] ++ pcells l := rfl
   rw [e]
   refine ⟨?_, ?_⟩
   · rw [List.getElem?_append_right (by simp; omega), show (i + 1) * 2 - [Value.int .i64 (x.1 : Int), .int .i64 (x.2 : Int)].length = i * 2 by simp; omega]; exact h1.1
   · rw [List.getElem?_append_right (by simp; omega), show (i + 1) * 2 + 1 - [Value.int .i64 (x.1 : Int), .int .i64 (x.2 : Int)].length = i * 2 + 1 by simp; omega]; exact h1.2
end Go.Df
