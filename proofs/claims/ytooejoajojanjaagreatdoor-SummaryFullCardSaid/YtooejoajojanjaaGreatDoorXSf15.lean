/- Texts: Py Ra. -/
import Derived.Test.YtooejoajojanjaaGreatDoorXSf13
import Derived.Test.YtooejoajojanjaaGreatDoorXSf14
import Derived.Shelf.Strings.Split
import Derived.Shelf.Strings.Cut
import Derived.Test.YtooejoajojanjaaGreatDoorXSf05
import Derived.WalkKit
import Derived.LaidEql
import Derived.Stop.Asserts
import Derived.RowKitTokens
namespace Go.Df
open Go.RowKit
theorem own_made (w : World) (base c : Nat) (t : TypeId) (cs : Array Value) (hb : base ≤ w.heap.size) (hc : c ≤ maxLen) (hs : cs.size = c) : (w.alloc (.cells cs t)).ownsRow base t 1 (.slice (some ⟨w.heap.size, 0, none⟩) 0 c) 0 [] :=
 ⟨rfl, .inr ⟨w.heap.size, c, cs, rfl, hb, heap_alloc_new w _, Nat.zero_le _, hc, by rw [Nat.mul_one]; exact hs, by simp⟩⟩
theorem bytes_back (l : List ByteArray) : l.map Value.string = (l.map (·.data.toList)).map strV := by
 rw [List.map_map]
 exact List.map_congr_left fun b _ => rfl
namespace If
theorem lin_bad {L : List Su} {s x0 : Bs} {xs : List Bs} (h : splW s = x0 :: xs) {x : Bs} (hx : x ∈ xs) (hn : numB x = none) : linS L s = (2, []) := by
 match xs, h, hx with
 | [x1], h, hx =>
   obtain rfl : x = x1 := by simpa using hx
   rw [lin_two h, hn]
 | [x1, x2], h, hx =>
   rw [lin_three h]
   rcases List.mem_cons.1 hx with e | e
   · subst e; rw [hn]
   · obtain rfl : x = x2 := by simpa using e
     rw [hn]
     cases numB x1 <;> rfl
 | x1 :: x2 :: x3 :: r, h, hx => exact lin_other (by rw [h]; simp) (by rw [h]; simp)
def linN (L : List Su) (x0 : Bs) (ns : List Nat) : Int × List Su := match ns with
 | [a] => if x0 = kwF then errL (sumErr 1024 (L ++ [⟨a, [], []⟩])) (L ++ [⟨a, [], []⟩]) else (2, [])
 | [a, b] => if L = [] then (2, []) else if x0 = kwT then errL (sumErr 1024 (addY L ⟨a, b⟩)) (addY L ⟨a, b⟩) else if x0 = kwE then (if (gS L (L.length - 1)).y ≠ [] then (13, []) else errL (sumErr 1024 (addX L ⟨a, b⟩)) (addX L ⟨a, b⟩)) else (2, [])
 | _ => (2, [])
theorem lin_nums {L : List Su} {s x0 : Bs} {xs : List Bs} {ns : List Nat} (h : splW s = x0 :: xs) (hx : xs.map numB = ns.map some) : linS L s = linN L x0 ns := by
 have hl : xs.length = ns.length := by have := congrArg List.length hx; simpa using this
 match xs, ns, hl, h, hx with
 | [], [], _, h, _ => exact lin_other (by rw [h]; simp) (by rw [h]; simp)
 | [x1], [a], _, h, hx =>
   have e : numB x1 = some a := by simpa using hx
   rw [lin_two h, e]
   rfl
 | [x1, x2], [a, b], _, h, hx =>
   have e : numB x1 = some a ∧ numB x2 = some b := by simpa using hx
   rw [lin_three h, e.1, e.2]
   rfl
 | x1 :: x2 :: x3 :: r, a :: b :: c :: q, _, h, _ => exact lin_other (by rw [h]; simp) (by rw [h]; simp)
theorem linN_word {L : List Su} {x0 : Bs} {ns : List Nat} (h1 : x0 ≠ kwF) (h2 : x0 ≠ kwE) (h3 : x0 ≠ kwT) : linN L x0 ns = (2, []) := by
 unfold linN
 split
 · rw [if_neg h1]
 · rw [if_neg h3, if_neg h2, ite_self]
 · rfl
theorem linN_F {L : List Su} {x0 : Bs} {ns : List Nat} (h : x0 = kwF) (hn : ns.length ≠ 1) : linN L x0 ns = (2, []) := by
 subst h
 unfold linN
 split
 · exact absurd rfl hn
 · have h1 : ¬ kwF = kwT := fun e => kw_ne.2.2 e.symm
   have h2 : ¬ kwF = kwE := fun e => kw_ne.2.1 e.symm
   simp only [h1, h2, if_false, ite_self]
 · rfl
theorem linN_E {L : List Su} {x0 : Bs} {ns : List Nat} (h : x0 ≠ kwF) (hn : ns.length ≠ 2) : linN L x0 ns = (2, []) := by
 unfold linN
 split
 · rw [if_neg h]
 · exact absurd rfl hn
 · rfl
theorem last_split {L : List Su} {m : Nat} {u : Su} (h : L.length = m + 1) (hu : gS L m = u) : L = L.dropLast ++ [u] := by
 have hne : L ≠ [] := fun e => by rw [e] at h; cases h
 have h1 := (List.dropLast_concat_getLast hne).symm
 have h2 : L.getLast hne = u := by
   rw [List.getLast_eq_getElem]
   rw [← hu]
   unfold gS
   rw [List.getD_eq_getElem?_getD, List.getElem?_eq_getElem (by omega)]
   simp [h]
 rw [h2] at h1
 exact h1
theorem errL_no {e : Int} {L : List Su} (h : e ≠ 0) : errL e L = (e, []) := by unfold errL; rw [if_neg h]
def natV (a : Nat) : Value := .int .i64 (a : Int)
theorem natV_snoc (l : List Nat) (a : Nat) : l.map natV ++ [.int .i64 (a : Int)] = (l ++ [a]).map natV := by simp [natV]
theorem nums_succ {xs : List Bs} {ns : List Nat} {j a : Nat} (h : (xs.take j).map numB = ns.map some) (hj : j < xs.length) (ha : numB (xs.getD j []) = some a) : (xs.take (j + 1)).map numB = (ns ++ [a]).map some := by
 rw [List.take_succ_eq_append_getElem hj, List.map_append, h, List.map_append]
 rw [List.getD_eq_getElem?_getD, List.getElem?_eq_getElem hj] at ha
 simp only [List.map_cons, List.map_nil]
 exact congrArg (fun z => ns.map some ++ [z]) ha
end If
end Go.Df
namespace Go.Proofs.YtooejoajojanjaaGreatDoor
open Go.RowKit Go.Df Go.Df.If Go.Sort
attribute [local go_sem ↓] Go.wp_at_zero Go.wp_at_succ
def Mx (B : Nat) (w : World) : Prop := ∃ m, ∀ w', Below B w w' → w'.cell? ⟨2, 0, none⟩ = some (.int .i64 m)
theorem Mx.later {B : Nat} {w w' : World} (h : Mx B w) (hb : Below B w w') : Mx B w' := let ⟨m, h⟩ := h; ⟨m, fun w2 h2 => h w2 (hb.trans h2)⟩
theorem Mx.at {B : Nat} {w : World} (h : Mx B w) : ∃ m, w.cell? ⟨2, 0, none⟩ = some (.int .i64 m) := let ⟨m, h⟩ := h; ⟨m, h w (Below.refl _ _)⟩
theorem strf_info9 : (Tryz.prog.info? 9).map (fun i => (i.zero, i.size, i.bytes)) = some (some (.string ByteArray.empty), 1, 16) := by kernel_rfl
theorem mk_nums (w : World) : (Instr.makeSlice 31 (.int .i64 0) (.int .i64 2)).run Tryz.prog w = .ok (.slice (some ⟨w.heap.size, 0, none⟩) 0 2) (w.alloc (.cells #[.int .i64 0, .int .i64 0] 3)) := by kernel_rfl
theorem psplit_any (s : Bs) (w : World) (hs : s.length ≤ 100000) {B : Nat} (hm : Mx B w) :
   Calls Tryz.prog 116 #[.string ⟨s.toArray⟩, .string ⟨#[32]⟩] w fun e w' => ∃ A k, e = .returned (.slice A k k) ∧ Strs w' A k (splW s) ∧ Kept [] w w' := by
 obtain ⟨m, hm⟩ := hm.at
 refine Calls.mono (Any.strings_Split laySp strf_info9 ⟨s.toArray⟩ ⟨#[32]⟩ m w (by show s.length < _; omega) hm (by decide)) ?_
 rintro e w' ⟨he, hw⟩
 have e9 : (Lib.splitB ⟨#[32]⟩ 0 (Lib.countB ⟨s.toArray⟩ ⟨#[32]⟩) ⟨s.toArray⟩).map (·.data.toList) = splW s := (Lib.splitB_data _ _ _ _).trans (splK_splW s.length s (Nat.le_refl _))
 have el : (splW s).length = Lib.countB ⟨s.toArray⟩ ⟨#[32]⟩ + 1 := by rw [← e9, List.length_map]; exact Lib.splitB_all _ (by decide) 0 _ _ rfl
 refine ⟨_, _, he, ⟨el, fun _ => ⟨_, 0, rfl, by rw [hw]; simp, fun i hi => ?_⟩⟩, by rw [hw]; exact (Kept.refl _ _).alloc _⟩
 rw [hw, bytes_back, e9, World.cell?_alloc_new, Nat.zero_add]
 have hi9 : i < (splW s).length := by rw [el]; exact hi
 simp [List.getD, List.getElem?_eq_getElem hi9]
theorem pcut_any (s : Bs) (w : World) (hs : s.length ≤ 100000) {B : Nat} (hm : Mx B w) :
   Calls Tryz.prog 75 #[.string ⟨s.toArray⟩, .string ⟨#[10]⟩] w fun e w' => e = .returned (match cutN s with | none => .tuple #[.string ⟨s.toArray⟩, .string ⟨#[]⟩, .bool false] | some (a, r) => .tuple #[.string ⟨a.toArray⟩, .string ⟨r.toArray⟩, .bool true]) ∧ Kept [] w w' := by
 obtain ⟨m, hm⟩ := hm.at
 refine Calls.mono (Any.strings_Cut layCu ⟨s.toArray⟩ ⟨#[10]⟩ m w (by show s.length < _; omega) hm) ?_
 rintro e w' ⟨he, k, hw⟩
 refine ⟨?_, by rw [hw]; exact (Kept.refl _ _).drewN _⟩
 rw [he]
 have e9 : Lib.cut (⟨s.toArray⟩ : ByteArray).data.toList (⟨#[10]⟩ : ByteArray).data.toList = match cutN s with | none => (s, [], false) | some (a, r) => (a, r, true) := cut_is s
 rw [e9]
 cases cutN s with
 | none => rfl
 | some p => rfl
set_option maxRecDepth 100000 in
set_option maxHeartbeats 8000000 in
theorem pline_any (base : Nat) (A : Option Addr) (n c : Nat) (L : List Su) (s : Bs) (R : Nat → Bool → Value) (cs : List Value) (w : World) (hS : SmO w base 30 72 A n c L R cs) (hok : sumErr 1024 L = 0) (hs : s.length ≤ 100000) (hbase : base ≤ w.heap.size) (hm : Mx base w) :
   Calls Tryz.prog 76 #[.slice A n c, .string ⟨s.toArray⟩] w (GetP base 30 72 w (linS L s)) := by
 obtain ⟨i1, hj, hy0, hy1, hy2⟩ := info_parts sumf_info
 obtain ⟨i2, pj, py0, py1, py2⟩ := info_parts pairf_info
 obtain ⟨i3, nj, ny0, ny1, ny2⟩ := info_parts inti_info
 have HS := Lib.hid hS
 have HLE := Lib.hid hS.len
 have HOK := Lib.hid (sum_ok.1 hok)
 have HOK0 := Lib.hid hok
 have hn256 : n ≤ 256 := by have h1 := HOK.out.2.1; have h2 := HLE.out; omega
 have HSPL := Lib.hid (psplit_any s w hs hm)
 obtain ⟨ws, hws⟩ : ∃ ws, splW s = ws := ⟨_, rfl⟩
 have HXL : Hid (∀ x ∈ ws, x.length ≤ 9223372036854775807) := Lib.hid (fun x hx => by rw [← hws] at hx; have := spl_len s x hx; omega)
 rw [hws] at HSPL
 obtain ⟨x0, xs, rfl⟩ : ∃ x0 xs, ws = x0 :: xs := by
   cases ws with
   | nil => exact absurd hws (spl_ne s)
   | cons x0 xs => exact ⟨_, _, rfl⟩
 have HWS := Lib.hid hws
 obtain ⟨nx, hnx⟩ : ∃ nx, xs.length = nx := ⟨_, rfl⟩
 have HNX := Lib.hid hnx
 have hnx9 : nx ≤ 100000 := by
   have h1 : (joiW (splW s)).length = s.length := by rw [joi_spl]
   have h2 : ∀ l : List Bs, l.length ≤ (joiW l).length + 1 := by
     intro l
     induction l with
     | nil => simp
     | cons a l ih =>
       cases l with
       | nil => simp
       | cons b l => simp only [joiW, List.length_append, List.length_cons] at ih ⊢; omega
   have h3 := h2 (splW s)
   rw [h1, hws, List.length_cons, hnx] at h3
   omega
 clear hS hok hs hws hm hnx
 go_enter Tryz.func76, Tryz.ntmps76
 go_upto_region 2 with (go_at_call 116; refine HSPL.out.mono ?_; rintro e w1 ⟨W, k, rfl, hW, hk1⟩)
 obtain rfl : k = nx + 1 := by have h9 := hW.1; rw [List.length_cons, HNX.out] at h9; exact h9.symm
 obtain ⟨b, o, rfl, hl, hc⟩ := hW.2 (by omega)
 have HWC := Lib.hid hc
 have HK1 : Hid (Kept [] w w1) := Lib.hid hk1
 clear hW hc hk1
 have hmk := mk_nums
 go_upto_region 3 with fail
 clear hmk
 refine wp_named (fun V => ∃ g, w1.heap.size = g ∧ V.ownsRow w1.heap.size 3 1 (.slice (some ⟨g, 0, none⟩) 0 2) 0 (([] : List Nat).map natV) ∧ Kept [] w1 V) ⟨_, rfl, own_made _ _ _ _ _ (Nat.le_refl _) (by unfold maxLen; omega) rfl, (Kept.refl _ _).alloc _⟩ ?_
 rintro V ⟨g, eg, hoV, hkV⟩
 rw [eg]
 have HK1V := Lib.hid hkV
 rw [eg] at hoV
 have HOV := Lib.hid hoV
 have HEG := Lib.hid eg
 clear eg hoV
 by_cases h0 : nx = 0
 · subst h0
   go_wp2_with fail
   go_loopw [7, 20] (fun s7 s20 wr => ∃ (j cQ : Nat) (Q : Option Addr) (ns : List Nat), j ≤ 0 ∧ s20 = .int .i64 j ∧ s7 = .slice Q j cQ ∧ Hid (ns.length = j) ∧ Hid ((xs.take j).map numB = ns.map some) ∧ Hid (Kept [] w1 wr) ∧ Hid (wr.ownsRow g 3 1 (.slice Q j cQ) j (ns.map natV))) (fun _ s20 _ => 0 - (intOf s20).toNat)
   case atStart => exact ⟨0, 2, _, [], Nat.zero_le _, rfl, rfl, Lib.hid rfl, Lib.hid rfl, HK1V, HOV⟩
   case round =>
   obtain ⟨j, cQ, Q, ns, hjx, rfl, rfl, HNL, HNS, HK1R, HON⟩ := hrel
   have HKR : Hid (Kept [] w wr) := Lib.hid (keptTrans HK1.out HK1R.out)
   obtain rfl : j = 0 := by omega
   have hlr : b < wr.heap.size := Nat.lt_of_lt_of_le hl HK1R.out.size
   have c0 : wr.cell? ⟨b, o, none⟩ = some (.string ⟨x0.toArray⟩) := (HK1R.out.cell b o hl (by simp)).trans (HWC.out 0 (by omega))
   have hE : Hid (linS L s = (2, [])) := Lib.hid (lin_other (by rw [HWS.out, List.length_cons, HNX.out]; omega) (by rw [HWS.out, List.length_cons, HNX.out]; omega))
   by_cases hF : x0 = kwF
   · have HF := Lib.hid hF
     rw [HF.out] at c0
     replace c0 : wr.cell? ⟨b, o, none⟩ = some (.string ⟨#[102, 117, 110, 99]⟩) := c0
     clear hF
     go_wp2_with fail
     go_ret2
     exact ⟨none, 0, 0, by rw [hE.out]; rfl, fun h9 => (by rw [hE.out] at h9; cases h9), HKR.out.below0 hbase⟩
   by_cases hEE : x0 = kwE
   · have HF := Lib.hid hEE
     rw [HF.out] at c0
     replace c0 : wr.cell? ⟨b, o, none⟩ = some (.string ⟨#[101, 120, 105, 116]⟩) := c0
     clear hEE
     go_wp2_with fail
     go_ret2
     exact ⟨none, 0, 0, by rw [hE.out]; rfl, fun h9 => (by rw [hE.out] at h9; cases h9), HKR.out.below0 hbase⟩
   by_cases hT : x0 = kwT
   · have HF := Lib.hid hT
     rw [HF.out] at c0
     replace c0 : wr.cell? ⟨b, o, none⟩ = some (.string ⟨#[116, 104, 114, 111, 119]⟩) := c0
     clear hT
     go_wp2_with fail
     go_ret2
     exact ⟨none, 0, 0, by rw [hE.out]; rfl, fun h9 => (by rw [hE.out] at h9; cases h9), HKR.out.below0 hbase⟩
   have hF1 : ¬ x0 = [102, 117, 110, 99] := hF
   have hF2 : ¬ x0 = [101, 120, 105, 116] := hEE
   have hF3 : ¬ x0 = [116, 104, 114, 111, 119] := hT
   go_wp2_with fail
   go_ret2
   exact ⟨none, 0, 0, by rw [hE.out]; rfl, fun h9 => (by rw [hE.out] at h9; cases h9), HKR.out.below0 hbase⟩
 have y1 : IntKind.i64.wrap ((nx : Int) + 1 - 1) = (nx : Int) := (IntWalk.i64_in _ (by omega)).trans (by omega)
 go_wp2_with fail
 go_loopw [7, 20] (fun s7 s20 wr => ∃ (j cQ : Nat) (Q : Option Addr) (ns : List Nat), j ≤ nx ∧ s20 = .int .i64 j ∧ s7 = .slice Q j cQ ∧ Hid (ns.length = j) ∧ Hid ((xs.take j).map numB = ns.map some) ∧ Hid (Kept [] w1 wr) ∧ Hid (wr.ownsRow g 3 1 (.slice Q j cQ) j (ns.map natV))) (fun _ s20 _ => nx - (intOf s20).toNat)
 case atStart => exact ⟨0, 2, _, [], Nat.zero_le _, rfl, rfl, Lib.hid rfl, Lib.hid rfl, HK1V, HOV⟩
 case round =>
 obtain ⟨j, cQ, Q, ns, hjx, rfl, rfl, HNL, HNS, HK1R, HON⟩ := hrel
 have HKR : Hid (Kept [] w wr) := Lib.hid (keptTrans HK1.out HK1R.out)
 by_cases hlt : j < nx
 case pos =>
   have hj9 : (j : Int) < (nx : Int) := by omega
   have hlr : b < wr.heap.size := Nat.lt_of_lt_of_le hl HK1R.out.size
   have c1 := (HK1R.out.cell b (o + (j + 1)) hl (by simp)).trans (HWC.out (j + 1) (by omega))
   have e1 : (x0 :: xs).getD (j + 1) [] = xs.getD j [] := by simp [List.getD]
   rw [e1] at c1
   obtain ⟨x, hx⟩ : ∃ x, xs.getD j [] = x := ⟨_, rfl⟩
   rw [hx] at c1
   have HX := Lib.hid hx
   have HMX : Hid (x ∈ xs) := Lib.hid (by
     have hj8 : j < xs.length := by rw [HNX.out]; exact hlt
     rw [List.getD_eq_getElem?_getD, List.getElem?_eq_getElem hj8] at hx
     rw [← hx]
     exact List.getElem_mem hj8)
   replace c1 : wr.cell? ⟨b, o + 1 + j, none⟩ = some (.string ⟨x.toArray⟩) := by
     rw [Nat.add_assoc, Nat.add_comm 1 j]
     exact c1
   have HNU := Lib.hid (pnum_any x)
   have hxl := HXL.out x (List.mem_cons_of_mem _ HMX.out)
   clear e1 hx
   cases hN : numB x with
   | none =>
     have hE : Hid (linS L s = (2, [])) := Lib.hid (lin_bad HWS.out HMX.out hN)
     have hnt : numT x = .tuple #[.int .i64 0, .bool false] := by unfold numT; rw [hN]
     rw [hnt] at HNU
     clear hN hnt
     go_wp2_with (go_at_call 117; refine (HNU.out _ hxl).mono ?_; rintro e w2 ⟨rfl, hb2⟩)
     go_ret2
     exact ⟨none, 0, 0, by rw [hE.out]; rfl, fun h9 => (by rw [hE.out] at h9; cases h9), (HKR.out.call hb2).below0 hbase⟩
   | some a =>
     have hnt : numT x = .tuple #[.int .i64 (a : Nat), .bool true] := by unfold numT; rw [hN]
     have HNS2 : Hid ((xs.take (j + 1)).map numB = (ns ++ [a]).map some) := Lib.hid (nums_succ HNS.out (by rw [HNX.out]; exact hlt) (by rw [HX.out]; exact hN))
     rw [hnt] at HNU
     have HAP := Lib.hid (natV_snoc ns a)
     have HXO : Hid (∀ y ∈ (Value.slice Q j cQ).ownBlock.toList, w1.heap.size ≤ y) := (fun y hy => by rw [HEG.out]; exact own_ge HON.out (by simpa using hy))
     have hgr : g ≤ wr.heap.size := by have h1 := HK1R.out.size; have h2 := HEG.out; omega
     clear hN hnt
     go_wp2_with (first | (go_at_call 117; refine (HNU.out _ hxl).mono ?_; rintro e w2 ⟨rfl, hb2⟩; have HK2 : Hid (Kept [] wr w2) := Lib.hid ((Kept.refl [] wr).call hb2)) | (at_builtin; refine wpList_append_rd _ rfl _ _ 31 rfl g 3 i3 (.int .i64 0) 1 8 Tryz.underlying31 nj ny0 ny1 ny2 rfl (by decide) (.slice Q j cQ) j _ rfl (own_keptT (X := []) HON.out (HK2.out.alloc _) (by simp)) (some ⟨w2.heap.size, 0, none⟩) 1 1 [.int .i64 (a : Int)] rfl (Rd.new1 _ _ _ _ rfl) (fun h => by cases h) (by intro u hu; simp at hu; subst hu; rfl) (j + 1) rfl _ HAP.out (by unfold maxLen; omega) (by omega) (by have h1 := HK2.out.size; simp; omega) ?_; intro A9 c9 w9 hown4 hk4 hat4; have hk6 := Lib.hid (((HK1R.out.call hb2).alloc (.cells #[.int .i64 (a : Int)] 3)).next hk4 (fun y hy => Or.inr (HXO.out y hy))); have HO4 := Lib.hid hown4; clear hown4 hk4 hat4))
     exact ⟨⟨j + 1, c9, A9, ns ++ [a], by omega, by go_num, rfl, Lib.hid (by rw [List.length_append, HNL.out]; rfl), HNS2, hk6, HO4⟩, by simp [intOf]; omega⟩
 obtain rfl : j = nx := by omega
 have HTK : Hid (xs.take j = xs) := Lib.hid (List.take_of_length_le (by rw [HNX.out]; exact Nat.le_refl _))
 have HLN : Hid (linS L s = linN L x0 ns) := Lib.hid (lin_nums HWS.out (by rw [← HTK.out]; exact HNS.out))
 have hlr : b < wr.heap.size := Nat.lt_of_lt_of_le hl HK1R.out.size
 have c0 : wr.cell? ⟨b, o, none⟩ = some (.string ⟨x0.toArray⟩) := (HK1R.out.cell b o hl (by simp)).trans (HWC.out 0 (by omega))
 clear hlt hjx
 by_cases hF : x0 = kwF
 · have HF := Lib.hid hF
   by_cases hj1 : j = 1
   case neg =>
     have g1 : ((j : Int) == 1) = false := by simp; omega
     have hE : Hid (linS L s = (2, [])) := Lib.hid (by rw [HLN.out]; exact linN_F hF (by rw [HNL.out]; exact hj1))
     clear hF
     rw [HF.out] at c0
     replace c0 : wr.cell? ⟨b, o, none⟩ = some (.string ⟨#[102, 117, 110, 99]⟩) := c0
     go_wp2_with fail
     go_ret2
     exact ⟨none, 0, 0, by rw [hE.out]; rfl, fun h9 => (by rw [hE.out] at h9; cases h9), HKR.out.below0 hbase⟩
   subst hj1
   obtain ⟨k, rfl⟩ : ∃ k, ns = [k] := by
     have h9 := HNL.out
     match ns, h9 with
     | [k], _ => exact ⟨k, rfl⟩
   have HLI : Hid (linS L s = errL (sumErr 1024 (L ++ [⟨k, [], []⟩])) (L ++ [⟨k, [], []⟩])) := Lib.hid (by rw [HLN.out]; unfold linN; dsimp only; rw [if_pos hF])
   obtain ⟨gq, cq, hvq, -, hgq, hnq, -, hcq, -⟩ := own_cellsT HON.out (by omega)
   injection hvq with e1 e2 e3
   subst e1
   have d0 : wr.cell? ⟨gq, 0, none⟩ = some (.int .i64 (k : Int)) := hcq 0 (by omega)
   have hrb : base ≤ wr.heap.size := by have := HKR.out.size; omega
   clear hF hcq
   rw [HF.out] at c0
   replace c0 : wr.cell? ⟨b, o, none⟩ = some (.string ⟨#[102, 117, 110, 99]⟩) := c0
   go_upto_region 13 with (at_builtin; refine wpList_append_rd _ rfl _ _ 22 rfl base 30 i1 (.agg #[.int .i64 0, .slice none 0 0, .slice none 0 0]) 3 56 Tryz.underlying22 hj hy0 hy1 hy2 rfl (by decide) (.slice A n c) n _ rfl (own_keptT (X := []) HS.out.own (HKR.out.alloc _) (by simp)) (some ⟨wr.heap.size, 0, none⟩) 1 1 [.int .i64 (k : Nat), .slice none 0 0, .slice none 0 0] rfl (new3P _ _ _ _ _ _ rfl) (fun h => by cases h) (by intro u hu; simp at hu; rcases hu with rfl | rfl <;> rfl) (n + 1) rfl _ rfl (by unfold maxLen; omega) (by omega) (by simp; omega) ?_; intro A9 c9 w9 hown9 hk9 hat9; have HO9 := Lib.hid hown9; have HK9 := Lib.hid hk9; clear hown9 hk9 hat9)
   have HSR := Lib.hid (HS.out.keep HKR.out)
   have HX3 : Hid (∀ y ∈ (Value.slice A n c).ownBlock.toList, base ≤ y) := Lib.hid (fun y hy => own_ge HS.out.own (by simpa using hy))
   have HK39 : Hid (Kept (Value.slice A n c).ownBlock.toList wr w9) := Lib.hid (((Kept.refl _ wr).alloc _).next HK9.out (fun y hy => .inl hy))
   have HS9 := Lib.hid (HSR.out.push (by decide) (u := ⟨k, [], []⟩) rfl HO9.out HK39.out (World.ownsRow_nil _ _ _ _) (World.ownsRow_nil _ _ _ _) (fun i b hi g hg => ⟨by simp [Value.ownBlock], by simp [Value.ownBlock]⟩) (fun g hg => by cases hg))
   have HB9 : Hid (Below base w w9) := Lib.hid ((HKR.out.below0 hbase).trans (keptBelow HK39.out HX3.out hrb))
   have hs9 : base ≤ w9.heap.size := by have := HB9.out.size; omega
   have HSF : Hid (sumErr 1024 (L ++ [⟨k, [], []⟩]) = if 256 < n + 1 then 3 else fnErr (L ++ [⟨k, [], []⟩]) n) := Lib.hid (by have h9 := sum_snocF (L := L) (n := k) HOK0.out; rw [HLE.out] at h9; exact h9)
   by_cases hbig : 256 < n + 1
   · have g1 : decide ((256 : Int) < (n : Int) + 1) = true := by simp; omega
     have hE : Hid (linS L s = (3, [])) := Lib.hid (by rw [HLI.out, HSF.out, if_pos hbig]; exact errL_no (by omega))
     clear hbig
     go_wp2_with fail
     go_ret2
     exact ⟨none, 0, 0, by rw [hE.out]; rfl, fun h9 => (by rw [hE.out] at h9; cases h9), HB9.out⟩
   have g1 : decide ((256 : Int) < (n : Int) + 1) = false := by simp; omega
   obtain ⟨pe, hpe⟩ : ∃ pe, fnErr (L ++ [⟨k, [], []⟩]) n = pe := ⟨_, rfl⟩
   have hE : Hid (linS L s = errL pe (L ++ [⟨k, [], []⟩])) := Lib.hid (by rw [HLI.out, HSF.out, if_neg hbig, hpe])
   have HCK := Lib.hid (checkFunc_any A9 (n + 1) c9 (L ++ [⟨k, [], []⟩]) n w9 HS9.out.sm (by omega) (by omega) pe hpe)
   have y2 : IntKind.i64.wrap (n : Int) = (n : Int) := IntWalk.i64_in _ (by omega)
   clear hpe hbig
   go_wp2_with (go_at_call 34; refine HCK.out.mono ?_; rintro e w10 ⟨rfl, hb10⟩)
   go_ret2
   refine ⟨A9, n + 1, c9, by rw [hE.out, errL_1]; rfl, fun h9 => ?_, HB9.out.trans (((Kept.refl [] w9).call hb10).below0 hs9)⟩
   rw [hE.out] at h9 ⊢
   rw [errL_2 h9]
   exact ⟨_, _, HS9.out.keep ((Kept.refl _ _).call hb10)⟩
 by_cases hET : x0 = kwE ∨ x0 = kwT
 case neg =>
   have hF1 : ¬ x0 = [102, 117, 110, 99] := hF
   have hF2 : ¬ x0 = [101, 120, 105, 116] := fun e => hET (.inl e)
   have hF3 : ¬ x0 = [116, 104, 114, 111, 119] := fun e => hET (.inr e)
   have hE : Hid (linS L s = (2, [])) := Lib.hid (by rw [HLN.out]; exact linN_word hF (fun e => hET (.inl e)) (fun e => hET (.inr e)))
   clear hF hET
   go_wp2_with fail
   go_ret2
   exact ⟨none, 0, 0, by rw [hE.out]; rfl, fun h9 => (by rw [hE.out] at h9; cases h9), HKR.out.below0 hbase⟩
 rcases hET with hF2 | hF2
 case inl =>
   have HF := Lib.hid hF2
   by_cases hj2 : j = 2
   case neg =>
     have g1 : ((j : Int) != 2) = true := by simp; omega
     have hE : Hid (linS L s = (2, [])) := Lib.hid (by rw [HLN.out]; exact linN_E hF (by rw [HNL.out]; exact hj2))
     clear hF hF2
     rw [HF.out] at c0
     replace c0 : wr.cell? ⟨b, o, none⟩ = some (.string ⟨#[101, 120, 105, 116]⟩) := c0
     go_wp2_with fail
     go_ret2
     exact ⟨none, 0, 0, by rw [hE.out]; rfl, fun h9 => (by rw [hE.out] at h9; cases h9), HKR.out.below0 hbase⟩
   subst hj2
   obtain ⟨a, bb, rfl⟩ : ∃ a bb, ns = [a, bb] := by
     have h9 := HNL.out
     match ns, h9 with
     | [a, bb], _ => exact ⟨a, bb, rfl⟩
   obtain ⟨gq, cq, hvq, hgq0, hgq, hnq, -, hcq, -⟩ := own_cellsT HON.out (by omega)
   injection hvq with e1 e2 e3
   subst e1
   have q0 : wr.cell? ⟨gq, 0, none⟩ = some (.int .i64 (a : Int)) := hcq 0 (by omega)
   have q1 : wr.cell? ⟨gq, 1, none⟩ = some (.int .i64 (bb : Int)) := hcq 1 (by omega)
   have hrb : base ≤ wr.heap.size := by have := HKR.out.size; omega
   clear hcq
   rcases Nat.eq_zero_or_pos n with hn0 | hn0
   · subst hn0
     have hE : Hid (linS L s = (2, [])) := Lib.hid (by rw [HLN.out]; unfold linN; dsimp only; rw [if_pos (List.length_eq_zero_iff.1 HLE.out)])
     clear hF hF2
     rw [HF.out] at c0
     replace c0 : wr.cell? ⟨b, o, none⟩ = some (.string ⟨#[101, 120, 105, 116]⟩) := c0
     go_wp2_with fail
     go_ret2
     exact ⟨none, 0, 0, by rw [hE.out]; rfl, fun h9 => (by rw [hE.out] at h9; cases h9), HKR.out.below0 hbase⟩
   obtain ⟨m, rfl⟩ : ∃ m, n = m + 1 := ⟨n - 1, by omega⟩
   have hLm : L.length - 1 = m := by have h9 := HLE.out; omega
   have hL : L ≠ [] := fun e => by have h9 := HLE.out; rw [e] at h9; cases h9
   have g0 : (((m : Int) + 1) == 0) = false := by simp; omega
   obtain ⟨u, hu⟩ : ∃ u, gS L m = u := ⟨_, rfl⟩
   obtain ⟨uf, ux, uy⟩ := u
   have HU := Lib.hid hu
   have HSP : Hid (L = L.dropLast ++ [⟨uf, ux, uy⟩]) := Lib.hid (last_split HLE.out hu)
   have HLX : Hid (ux.length ≤ 8192 ∧ uy.length ≤ 8192) := Lib.hid (by
     have h9 := HOK.out.2.2 m (by have := HLE.out; omega)
     rw [hu] at h9
     exact ⟨(ls_ok.1 h9.2.1).1, (ls_ok.1 h9.2.2).1⟩)
   have HSR := Lib.hid (HS.out.keep HKR.out)
   have HR0 := Lib.hid (HSR.out.row m false (by omega))
   have HR1 := Lib.hid (HSR.out.row m true (by omega))
   rw [hu] at HR0 HR1
   replace HR0 : Hid (wr.ownsRow base 72 2 (R m false) ux.length (prC ux)) := HR0
   replace HR1 : Hid (wr.ownsRow base 72 2 (R m true) uy.length (prC uy)) := HR1
   obtain ⟨E0, d0, hv0⟩ := own_shape HR0.out
   obtain ⟨E1, d1, hv1⟩ := own_shape HR1.out
   replace hv0 : R m false = .slice E0 ux.length d0 := hv0
   replace hv1 : R m true = .slice E1 uy.length d1 := hv1
   have HV0 := Lib.hid hv0
   have HV1 := Lib.hid hv1
   rw [hv0] at HR0
   rw [hv1] at HR1
   obtain ⟨gA, cA, hvA, hgb, hgA, hnA, -, hcA, hfA⟩ := own_cellsT HSR.out.own (by omega)
   injection hvA with e1 e2 e3
   subst e1
   subst e3
   obtain ⟨-, k1, k2⟩ := HSR.out.cell m (by omega)
   have a1 := (hcA (m * 3 + 1) (by omega)).trans k1
   have a2 := (hcA (m * 3 + 2) (by omega)).trans k2
   rw [hv0] at a1
   rw [hv1] at a2
   have hf1 := hfA (m * 3 + 1)
   have y2 : IntKind.i64.wrap (m : Int) = (m : Int) := IntWalk.i64_in _ (by omega)
   have y3 : (0 : Int) ≤ (m : Int) := by omega
   have y4 : (m : Int) < (m : Int) + 1 := by omega
   have y5 : (m : Int).toNat = m := by omega
   clear hcA k1 k2 hv0 hv1 hu hfA
   by_cases hy : uy = []
   case neg =>
     have hE : Hid (linS L s = (13, [])) := Lib.hid (by
       rw [HLN.out]
       unfold linN
       dsimp only
       rw [if_neg hL, if_neg (by rw [hF2]; exact kw_ne.1), if_pos hF2, hLm, HU.out, if_pos hy])
     obtain ⟨ny, hny⟩ : ∃ ny, uy.length = ny := ⟨_, rfl⟩
     have hny0 : 0 < ny := by rw [← hny]; exact List.length_pos_iff.2 hy
     rw [hny] at a2
     have g9 : decide ((0 : Int) < (ny : Int)) = true := by simp; omega
     clear hF hF2 hL hy hny
     rw [HF.out] at c0
     replace c0 : wr.cell? ⟨b, o, none⟩ = some (.string ⟨#[101, 120, 105, 116]⟩) := c0
     go_wp2_with fail
     go_ret2
     exact ⟨none, 0, 0, by rw [hE.out]; rfl, fun h9 => (by rw [hE.out] at h9; cases h9), HKR.out.below0 hbase⟩
   subst hy
   have HLI : Hid (linS L s = errL (sumErr 1024 (L.dropLast ++ [⟨uf, ux ++ [⟨a, bb⟩], []⟩])) (L.dropLast ++ [⟨uf, ux ++ [⟨a, bb⟩], []⟩])) := Lib.hid (by
     rw [HLN.out]
     unfold linN
     dsimp only
     rw [if_neg hL, if_neg (by rw [hF2]; exact kw_ne.1), if_pos hF2, hLm, HU.out, if_neg (by simp)]
     unfold addX
     rw [hLm, HU.out])
   have HAD : Hid (sumErr 1024 (L.dropLast ++ [⟨uf, ux ++ [⟨a, bb⟩], []⟩]) = if 8192 < ux.length + 1 then 3 else prErr 1024 (ux ++ [⟨a, bb⟩]) ux.length) := Lib.hid (sum_addX (by rw [← HSP.out]; exact HOK0.out))
   obtain ⟨nx, hnx⟩ : ∃ nx, ux.length = nx := ⟨_, rfl⟩
   have HNX2 := Lib.hid hnx
   have hnx9 : nx ≤ 8192 := by have := HLX.out; omega
   rw [hnx] at a1 HR0 HAD
   have HAP := Lib.hid (prC_snoc ux a bb)
   have xA : gA ∉ (Value.slice E0 nx d0).ownBlock.toList := fun hm => HSR.out.apart (by decide) (i := m) (b := false) (by omega) (by rw [HV0.out, hnx]; simpa using hm) rfl rfl
   have xq : gq ∉ (Value.slice E0 nx d0).ownBlock.toList := fun hm => by
     have h8 := (own_blk (HS.out.row m false (by omega)) (by rw [HV0.out, hnx]; simpa using hm)).2
     have h7 := HEG.out
     have h6 := HK1.out.size
     omega
   clear hF hF2 hL hnx
   rw [HF.out] at c0
   replace c0 : wr.cell? ⟨b, o, none⟩ = some (.string ⟨#[101, 120, 105, 116]⟩) := c0
   go_upto_region 24 with fail
   refine wp_region_E 14 (fun w' => SXu (Value.slice E0 nx d0).ownBlock.toList gA gq wr w') (by kernel_rfl) (by (first | (with_reducible assumption) | exact SXu.of (Kept.refl _ _).drew hgA hgq xA xq | exact SXu.of (hHeld.1.alloc _) hgA hgq xA xq | exact SXu.of HKA.out hgA hgq xA xq)) (fun hHeld => ?_)
   refine WE_tk 0 ?_
   refine WE_tk 1 ?_
   refine WE_tk 2 ?_
   refine WE_tk 3 ?_
   refine WE_tk 4 ?_
   refine WE_tk 5 ?_
   refine WE_tk 6 ?_
   refine WE_tk 7 ?_
   refine WE_tk 8 ?_
   refine WE_tk 9 ?_
   refine WE_tk 10 ?_
   refine WE_step 11 rfl (by kernel_rfl) (fun K hK => ?_)
   go_simp
   refine hK.out _ _ ?_ (fun hHeld => ?_)
   · (first | (with_reducible assumption) | exact SXu.of (Kept.refl _ _).drew hgA hgq xA xq | exact SXu.of (hHeld.1.alloc _) hgA hgq xA xq | exact SXu.of HKA.out hgA hgq xA xq)
   clear hK K
   refine WE_put ?_
   refine WE_step 12 rfl (by kernel_rfl) (fun K hK => ?_)
   (refine step_append_rd _ rfl _ _ 28 rfl base 72 i2 (.agg #[.int .i64 0, .int .i64 0]) 2 16 Tryz.underlying28 pj py0 py1 py2 rfl (by decide) (.slice E0 nx d0) nx _ rfl (own_keptT (X := []) HR0.out (by first | exact ((Kept.refl _ _).drew).alloc _ | exact ((Kept.refl _ _).alloc _).drew) (by simp)) (some ⟨_, 0, none⟩) 1 1 [.int .i64 (a : Int), .int .i64 (bb : Int)] rfl (new2P _ _ _ _ _ rfl) (fun h => by cases h) (by intro u hu; simp at hu; rcases hu with rfl | rfl <;> rfl) (nx + 1) rfl _ HAP.out (by unfold maxLen; omega) (by omega) (by simp; omega) ?_; intro A9 c9 w9 hown9 hk9 hat9; have HKA : Hid (Kept (Value.slice E0 nx d0).ownBlock.toList wr w9) := Lib.hid (Kept.next (by first | exact ((Kept.refl _ _).drew).alloc _ | exact ((Kept.refl _ _).alloc _).drew) hk9 (fun y hy => .inl hy)); have HO9 := Lib.hid hown9; have HAT : Hid (∀ x, (Value.slice A9 (nx + 1) c9).ownBlock = some x → (Value.slice E0 nx d0).ownBlock = some x ∨ wr.heap.size ≤ x) := Lib.hid (fun x hx => (hat9 x hx).imp id (fun e9 => by rw [e9]; simp)); have hf9 := (HKA.out.frozen gA (m * 3 + 1) hgA xA).trans hf1; clear hown9 hk9 hat9)
   refine hK.out _ _ ?_ (fun hHeld => ?_)
   · (first | (with_reducible assumption) | exact SXu.of (Kept.refl _ _).drew hgA hgq xA xq | exact SXu.of (hHeld.1.alloc _) hgA hgq xA xq | exact SXu.of HKA.out hgA hgq xA xq)
   clear hK K
   refine WE_put ?_
   refine WE_tk 13 ?_
   refine WE_last rfl (by kernel_rfl) (fun K hK => ?_)
   go_simp
   refine hK.out _ _ ?_
   clear hK K
   clear hHeld
   refine then_named (fun X => SmO X base 30 72 (some ⟨gA, 0, none⟩) (m + 1) c (L.dropLast ++ [⟨uf, ux ++ [⟨a, bb⟩], []⟩]) (updR R m false (.slice A9 (nx + 1) c9)) (cs.set (m * 3 + 1) (.slice A9 (nx + 1) c9)) ∧ X.cell? ⟨gA, m * 3 + 1, none⟩ = some (.slice A9 (nx + 1) c9) ∧ Below base w X ∧ gA < X.heap.size ∧ Prs X A9 (nx + 1) (ux ++ [⟨a, bb⟩])) ⟨?_, ?_, ?_, ?_, ?_⟩ ?_
   · have h9 := HSR.out.put (by decide) rfl false (v := .slice A9 (nx + 1) c9) (l := ux ++ [⟨a, bb⟩]) (k := m * 3 + 1) (w1 := w9) (by rw [HV0.out, HNX2.out]; exact HKA.out) (by rw [List.length_append, HNX2.out]; exact HO9.out) (fun x hx => by rw [HV0.out, HNX2.out]; exact HAT.out x hx) rfl
     rw [HU.out] at h9
     exact h9
   · exact World.cell?_setCell_same _ _ _ ((HKA.out.cell gA (m * 3 + 1) hgA xA).trans a1)
   · exact ((HKR.out.below0 hbase).trans (keptBelow HKA.out (fun y hy => own_ge HR0.out (by simpa using hy)) hrb)).trans (keptBelow ((Kept.refl [gA] w9).set gA _ _ (.inl (by simp))) (by simpa using hgb) (by have := HKA.out.size; omega))
   · have h9 := HKA.out.size
     have h8 := ((Kept.refl [gA] w9).set gA (m * 3 + 1) (.slice A9 (nx + 1) c9) (.inl (by simp))).size
     omega
   · exact (Prs.ofOwn (ownsRow_setCell_other HO9.out (fun h9 => by
       rcases HAT.out gA h9 with h8 | h8
       · exact xA (by simpa using h8)
       · omega) _)).1
   rintro X ⟨hSX, hcX, hbX, hlX, hPX⟩
   have HSX := Lib.hid hSX
   have HBX := Lib.hid hbX
   have HPX := Lib.hid hPX
   have hXb : base ≤ X.heap.size := by have := HBX.out.size; omega
   have y6 : IntKind.i64.wrap (nx : Int) = (nx : Int) := IntWalk.i64_in _ (by omega)
   clear hSX hbX hPX a1 a2 q0 q1 c0 hf1 hf9 HKA HO9 HAT
   by_cases hbig : 8192 < nx + 1
   · have g5 : decide ((8192 : Int) < (nx : Int) + 1) = true := by simp; omega
     have hE : Hid (linS L s = (3, [])) := Lib.hid (by rw [HLI.out, HAD.out, if_pos hbig]; exact errL_no (by omega))
     clear hbig
     go_wp2_with fail
     go_ret2
     exact ⟨none, 0, 0, by rw [hE.out]; rfl, fun h9 => (by rw [hE.out] at h9; cases h9), HBX.out⟩
   have g5 : decide ((8192 : Int) < (nx : Int) + 1) = false := by simp; omega
   obtain ⟨pe, hpe⟩ : ∃ pe, prErr 1024 (ux ++ [⟨a, bb⟩]) nx = pe := ⟨_, rfl⟩
   have HPE := Lib.hid hpe
   have hE : Hid (linS L s = errL pe (L.dropLast ++ [⟨uf, ux ++ [⟨a, bb⟩], []⟩])) := Lib.hid (by rw [HLI.out, HAD.out, if_neg hbig, hpe])
   clear hpe hbig
   go_upto_region 27 with fail
   refine wp_region_E 11 (fun w' => SX0 X w') (by kernel_rfl) (by (exact kp0)) (fun hHeld => ?_)
   refine WE_tk 0 ?_
   refine WE_tk 1 ?_
   refine WE_tk 2 ?_
   refine WE_tk 3 ?_
   refine WE_tk 4 ?_
   refine WE_tk 5 ?_
   refine WE_tk 6 ?_
   refine WE_tk 7 ?_
   refine WE_tk 8 ?_
   refine WE_step 9 rfl (by kernel_rfl) (fun K hK => ?_)
   go_simp
   (go_at_call 35; refine (checkPair_any A9 (nx + 1) c9 1024 (ux ++ [⟨a, bb⟩]) nx _ (HPX.out.later hHeld.1.toBelow) (by omega) (by omega) pe HPE.out).mono ?_; rintro e w10 ⟨rfl, hb10⟩)
   (try go_wp2_with fail)
   refine hK.out _ _ ?_ (fun hHeld => ?_)
   · (exact kp0)
   clear hK K
   refine WE_put ?_
   refine WE_tk 10 ?_
   refine WE_last rfl (by kernel_rfl) (fun K hK => ?_)
   go_simp
   refine hK.out _ _ ?_
   clear hK K
   have HKX : Hid (Kept [] X w10) := Lib.hid hHeld.1
   go_wp2_with fail
   go_ret2
   refine ⟨some ⟨gA, 0, none⟩, m + 1, c, by rw [hE.out, errL_1]; rfl, fun h9 => ?_, HBX.out.trans (HKX.out.below0 hXb)⟩
   rw [hE.out] at h9 ⊢
   rw [errL_2 h9]
   exact ⟨_, _, HSX.out.keep HKX.out⟩
 case inr =>
   have HF := Lib.hid hF2
   by_cases hj2 : j = 2
   case neg =>
     have g1 : ((j : Int) != 2) = true := by simp; omega
     have hE : Hid (linS L s = (2, [])) := Lib.hid (by rw [HLN.out]; exact linN_E hF (by rw [HNL.out]; exact hj2))
     clear hF hF2
     rw [HF.out] at c0
     replace c0 : wr.cell? ⟨b, o, none⟩ = some (.string ⟨#[116, 104, 114, 111, 119]⟩) := c0
     go_wp2_with fail
     go_ret2
     exact ⟨none, 0, 0, by rw [hE.out]; rfl, fun h9 => (by rw [hE.out] at h9; cases h9), HKR.out.below0 hbase⟩
   subst hj2
   obtain ⟨a, bb, rfl⟩ : ∃ a bb, ns = [a, bb] := by
     have h9 := HNL.out
     match ns, h9 with
     | [a, bb], _ => exact ⟨a, bb, rfl⟩
   obtain ⟨gq, cq, hvq, hgq0, hgq, hnq, -, hcq, -⟩ := own_cellsT HON.out (by omega)
   injection hvq with e1 e2 e3
   subst e1
   have q0 : wr.cell? ⟨gq, 0, none⟩ = some (.int .i64 (a : Int)) := hcq 0 (by omega)
   have q1 : wr.cell? ⟨gq, 1, none⟩ = some (.int .i64 (bb : Int)) := hcq 1 (by omega)
   have hrb : base ≤ wr.heap.size := by have := HKR.out.size; omega
   clear hcq
   rcases Nat.eq_zero_or_pos n with hn0 | hn0
   · subst hn0
     have hE : Hid (linS L s = (2, [])) := Lib.hid (by rw [HLN.out]; unfold linN; dsimp only; rw [if_pos (List.length_eq_zero_iff.1 HLE.out)])
     clear hF hF2
     rw [HF.out] at c0
     replace c0 : wr.cell? ⟨b, o, none⟩ = some (.string ⟨#[116, 104, 114, 111, 119]⟩) := c0
     go_wp2_with fail
     go_ret2
     exact ⟨none, 0, 0, by rw [hE.out]; rfl, fun h9 => (by rw [hE.out] at h9; cases h9), HKR.out.below0 hbase⟩
   obtain ⟨m, rfl⟩ : ∃ m, n = m + 1 := ⟨n - 1, by omega⟩
   have hLm : L.length - 1 = m := by have h9 := HLE.out; omega
   have hL : L ≠ [] := fun e => by have h9 := HLE.out; rw [e] at h9; cases h9
   have g0 : (((m : Int) + 1) == 0) = false := by simp; omega
   obtain ⟨u, hu⟩ : ∃ u, gS L m = u := ⟨_, rfl⟩
   obtain ⟨uf, ux, uy⟩ := u
   have HU := Lib.hid hu
   have HSP : Hid (L = L.dropLast ++ [⟨uf, ux, uy⟩]) := Lib.hid (last_split HLE.out hu)
   have HLX : Hid (ux.length ≤ 8192 ∧ uy.length ≤ 8192) := Lib.hid (by
     have h9 := HOK.out.2.2 m (by have := HLE.out; omega)
     rw [hu] at h9
     exact ⟨(ls_ok.1 h9.2.1).1, (ls_ok.1 h9.2.2).1⟩)
   have HSR := Lib.hid (HS.out.keep HKR.out)
   have HR0 := Lib.hid (HSR.out.row m false (by omega))
   have HR1 := Lib.hid (HSR.out.row m true (by omega))
   rw [hu] at HR0 HR1
   replace HR0 : Hid (wr.ownsRow base 72 2 (R m false) ux.length (prC ux)) := HR0
   replace HR1 : Hid (wr.ownsRow base 72 2 (R m true) uy.length (prC uy)) := HR1
   obtain ⟨E0, d0, hv0⟩ := own_shape HR0.out
   obtain ⟨E1, d1, hv1⟩ := own_shape HR1.out
   replace hv0 : R m false = .slice E0 ux.length d0 := hv0
   replace hv1 : R m true = .slice E1 uy.length d1 := hv1
   have HV0 := Lib.hid hv0
   have HV1 := Lib.hid hv1
   rw [hv0] at HR0
   rw [hv1] at HR1
   obtain ⟨gA, cA, hvA, hgb, hgA, hnA, -, hcA, hfA⟩ := own_cellsT HSR.out.own (by omega)
   injection hvA with e1 e2 e3
   subst e1
   subst e3
   obtain ⟨-, k1, k2⟩ := HSR.out.cell m (by omega)
   have a1 := (hcA (m * 3 + 1) (by omega)).trans k1
   have a2 := (hcA (m * 3 + 2) (by omega)).trans k2
   rw [hv0] at a1
   rw [hv1] at a2
   have hf1 := hfA (m * 3 + 2)
   have y2 : IntKind.i64.wrap (m : Int) = (m : Int) := IntWalk.i64_in _ (by omega)
   have y3 : (0 : Int) ≤ (m : Int) := by omega
   have y4 : (m : Int) < (m : Int) + 1 := by omega
   have y5 : (m : Int).toNat = m := by omega
   clear hcA k1 k2 hv0 hv1 hu hfA
   have HLI : Hid (linS L s = errL (sumErr 1024 (L.dropLast ++ [⟨uf, ux, uy ++ [⟨a, bb⟩]⟩])) (L.dropLast ++ [⟨uf, ux, uy ++ [⟨a, bb⟩]⟩])) := Lib.hid (by
     rw [HLN.out]
     unfold linN
     dsimp only
     rw [if_neg hL, if_pos hF2]
     unfold addY
     rw [hLm, HU.out])
   have HAD : Hid (sumErr 1024 (L.dropLast ++ [⟨uf, ux, uy ++ [⟨a, bb⟩]⟩]) = if 8192 < uy.length + 1 then 3 else prErr 1024 (uy ++ [⟨a, bb⟩]) uy.length) := Lib.hid (sum_addY (by rw [← HSP.out]; exact HOK0.out))
   obtain ⟨nx, hnx⟩ : ∃ nx, uy.length = nx := ⟨_, rfl⟩
   have HNX2 := Lib.hid hnx
   have hnx9 : nx ≤ 8192 := by have := HLX.out; omega
   rw [hnx] at a2 HR1 HAD
   have HAP := Lib.hid (prC_snoc uy a bb)
   have xA : gA ∉ (Value.slice E1 nx d1).ownBlock.toList := fun hm => HSR.out.apart (by decide) (i := m) (b := true) (by omega) (by rw [HV1.out, hnx]; simpa using hm) rfl rfl
   have xq : gq ∉ (Value.slice E1 nx d1).ownBlock.toList := fun hm => by
     have h8 := (own_blk (HS.out.row m true (by omega)) (by rw [HV1.out, hnx]; simpa using hm)).2
     have h7 := HEG.out
     have h6 := HK1.out.size
     omega
   clear hF hF2 hL hnx
   rw [HF.out] at c0
   replace c0 : wr.cell? ⟨b, o, none⟩ = some (.string ⟨#[116, 104, 114, 111, 119]⟩) := c0
   go_upto_region 24 with fail
   refine wp_region_E 14 (fun w' => SXu (Value.slice E1 nx d1).ownBlock.toList gA gq wr w') (by kernel_rfl) (by (first | (with_reducible assumption) | exact SXu.of (Kept.refl _ _).drew hgA hgq xA xq | exact SXu.of (hHeld.1.alloc _) hgA hgq xA xq | exact SXu.of HKA.out hgA hgq xA xq)) (fun hHeld => ?_)
   refine WE_tk 0 ?_
   refine WE_tk 1 ?_
   refine WE_tk 2 ?_
   refine WE_tk 3 ?_
   refine WE_tk 4 ?_
   refine WE_tk 5 ?_
   refine WE_tk 6 ?_
   refine WE_tk 7 ?_
   refine WE_tk 8 ?_
   refine WE_tk 9 ?_
   refine WE_tk 10 ?_
   refine WE_step 11 rfl (by kernel_rfl) (fun K hK => ?_)
   go_simp
   refine hK.out _ _ ?_ (fun hHeld => ?_)
   · (first | (with_reducible assumption) | exact SXu.of (Kept.refl _ _).drew hgA hgq xA xq | exact SXu.of (hHeld.1.alloc _) hgA hgq xA xq | exact SXu.of HKA.out hgA hgq xA xq)
   clear hK K
   refine WE_put ?_
   refine WE_step 12 rfl (by kernel_rfl) (fun K hK => ?_)
   (refine step_append_rd _ rfl _ _ 28 rfl base 72 i2 (.agg #[.int .i64 0, .int .i64 0]) 2 16 Tryz.underlying28 pj py0 py1 py2 rfl (by decide) (.slice E1 nx d1) nx _ rfl (own_keptT (X := []) HR1.out (by first | exact ((Kept.refl _ _).drew).alloc _ | exact ((Kept.refl _ _).alloc _).drew) (by simp)) (some ⟨_, 0, none⟩) 1 1 [.int .i64 (a : Int), .int .i64 (bb : Int)] rfl (new2P _ _ _ _ _ rfl) (fun h => by cases h) (by intro u hu; simp at hu; rcases hu with rfl | rfl <;> rfl) (nx + 1) rfl _ HAP.out (by unfold maxLen; omega) (by omega) (by simp; omega) ?_; intro A9 c9 w9 hown9 hk9 hat9; have HKA : Hid (Kept (Value.slice E1 nx d1).ownBlock.toList wr w9) := Lib.hid (Kept.next (by first | exact ((Kept.refl _ _).drew).alloc _ | exact ((Kept.refl _ _).alloc _).drew) hk9 (fun y hy => .inl hy)); have HO9 := Lib.hid hown9; have HAT : Hid (∀ x, (Value.slice A9 (nx + 1) c9).ownBlock = some x → (Value.slice E1 nx d1).ownBlock = some x ∨ wr.heap.size ≤ x) := Lib.hid (fun x hx => (hat9 x hx).imp id (fun e9 => by rw [e9]; simp)); have hf9 := (HKA.out.frozen gA (m * 3 + 2) hgA xA).trans hf1; clear hown9 hk9 hat9)
   refine hK.out _ _ ?_ (fun hHeld => ?_)
   · (first | (with_reducible assumption) | exact SXu.of (Kept.refl _ _).drew hgA hgq xA xq | exact SXu.of (hHeld.1.alloc _) hgA hgq xA xq | exact SXu.of HKA.out hgA hgq xA xq)
   clear hK K
   refine WE_put ?_
   refine WE_tk 13 ?_
   refine WE_last rfl (by kernel_rfl) (fun K hK => ?_)
   go_simp
   refine hK.out _ _ ?_
   clear hK K
   clear hHeld
   refine then_named (fun X => SmO X base 30 72 (some ⟨gA, 0, none⟩) (m + 1) c (L.dropLast ++ [⟨uf, ux, uy ++ [⟨a, bb⟩]⟩]) (updR R m true (.slice A9 (nx + 1) c9)) (cs.set (m * 3 + 2) (.slice A9 (nx + 1) c9)) ∧ X.cell? ⟨gA, m * 3 + 2, none⟩ = some (.slice A9 (nx + 1) c9) ∧ Below base w X ∧ gA < X.heap.size ∧ Prs X A9 (nx + 1) (uy ++ [⟨a, bb⟩])) ⟨?_, ?_, ?_, ?_, ?_⟩ ?_
   · have h9 := HSR.out.put (by decide) rfl true (v := .slice A9 (nx + 1) c9) (l := uy ++ [⟨a, bb⟩]) (k := m * 3 + 2) (w1 := w9) (by rw [HV1.out, HNX2.out]; exact HKA.out) (by rw [List.length_append, HNX2.out]; exact HO9.out) (fun x hx => by rw [HV1.out, HNX2.out]; exact HAT.out x hx) rfl
     rw [HU.out] at h9
     exact h9
   · exact World.cell?_setCell_same _ _ _ ((HKA.out.cell gA (m * 3 + 2) hgA xA).trans a2)
   · exact ((HKR.out.below0 hbase).trans (keptBelow HKA.out (fun y hy => own_ge HR1.out (by simpa using hy)) hrb)).trans (keptBelow ((Kept.refl [gA] w9).set gA _ _ (.inl (by simp))) (by simpa using hgb) (by have := HKA.out.size; omega))
   · have h9 := HKA.out.size
     have h8 := ((Kept.refl [gA] w9).set gA (m * 3 + 2) (.slice A9 (nx + 1) c9) (.inl (by simp))).size
     omega
   · exact (Prs.ofOwn (ownsRow_setCell_other HO9.out (fun h9 => by
       rcases HAT.out gA h9 with h8 | h8
       · exact xA (by simpa using h8)
       · omega) _)).1
   rintro X ⟨hSX, hcX, hbX, hlX, hPX⟩
   have HSX := Lib.hid hSX
   have HBX := Lib.hid hbX
   have HPX := Lib.hid hPX
   have hXb : base ≤ X.heap.size := by have := HBX.out.size; omega
   have y6 : IntKind.i64.wrap (nx : Int) = (nx : Int) := IntWalk.i64_in _ (by omega)
   clear hSX hbX hPX a1 a2 q0 q1 c0 hf1 hf9 HKA HO9 HAT
   by_cases hbig : 8192 < nx + 1
   · have g5 : decide ((8192 : Int) < (nx : Int) + 1) = true := by simp; omega
     have hE : Hid (linS L s = (3, [])) := Lib.hid (by rw [HLI.out, HAD.out, if_pos hbig]; exact errL_no (by omega))
     clear hbig
     go_wp2_with fail
     go_ret2
     exact ⟨none, 0, 0, by rw [hE.out]; rfl, fun h9 => (by rw [hE.out] at h9; cases h9), HBX.out⟩
   have g5 : decide ((8192 : Int) < (nx : Int) + 1) = false := by simp; omega
   obtain ⟨pe, hpe⟩ : ∃ pe, prErr 1024 (uy ++ [⟨a, bb⟩]) nx = pe := ⟨_, rfl⟩
   have HPE := Lib.hid hpe
   have hE : Hid (linS L s = errL pe (L.dropLast ++ [⟨uf, ux, uy ++ [⟨a, bb⟩]⟩])) := Lib.hid (by rw [HLI.out, HAD.out, if_neg hbig, hpe])
   clear hpe hbig
   go_upto_region 27 with fail
   refine wp_region_E 11 (fun w' => SX0 X w') (by kernel_rfl) (by (exact kp0)) (fun hHeld => ?_)
   refine WE_tk 0 ?_
   refine WE_tk 1 ?_
   refine WE_tk 2 ?_
   refine WE_tk 3 ?_
   refine WE_tk 4 ?_
   refine WE_tk 5 ?_
   refine WE_tk 6 ?_
   refine WE_tk 7 ?_
   refine WE_tk 8 ?_
   refine WE_step 9 rfl (by kernel_rfl) (fun K hK => ?_)
   go_simp
   (go_at_call 35; refine (checkPair_any A9 (nx + 1) c9 1024 (uy ++ [⟨a, bb⟩]) nx _ (HPX.out.later hHeld.1.toBelow) (by omega) (by omega) pe HPE.out).mono ?_; rintro e w10 ⟨rfl, hb10⟩)
   (try go_wp2_with fail)
   refine hK.out _ _ ?_ (fun hHeld => ?_)
   · (exact kp0)
   clear hK K
   refine WE_put ?_
   refine WE_tk 10 ?_
   refine WE_last rfl (by kernel_rfl) (fun K hK => ?_)
   go_simp
   refine hK.out _ _ ?_
   clear hK K
   have HKX : Hid (Kept [] X w10) := Lib.hid hHeld.1
   go_wp2_with fail
   go_ret2
   refine ⟨some ⟨gA, 0, none⟩, m + 1, c, by rw [hE.out, errL_1]; rfl, fun h9 => ?_, HBX.out.trans (HKX.out.below0 hXb)⟩
   rw [hE.out] at h9 ⊢
   rw [errL_2 h9]
   exact ⟨_, _, HSX.out.keep HKX.out⟩
end Go.Proofs.YtooejoajojanjaaGreatDoor
namespace Go.Proofs.YtooejoajojanjaaGreatDoor
open Go.RowKit Go.Df Go.Extern.Stop Go.Stop Go.Extern
attribute [local go_sem ↓] Go.wp_at_zero Go.wp_at_succ
theorem As.valueOfP (t : Addr) (w : World) : (ReflectliteValue.unpack (.iface 93 (.pointer (some t)))).run Tryz.prog w
   = .ok (.agg #[.pointer (some ⟨7, 93, none⟩), .pointer (some ⟨w.heap.size, 0, none⟩), .int .u64 150]) (w.alloc (.cells #[.pointer (some t)] 93)) := by kernel_rfl
theorem As.typeP (a : Addr) (w : World) : (ReflectliteValue.methodAny (ReflectliteValue.valueError "reflectlite.Value.Type" 0) (fun t _ _ _ => ReflectliteType.toType t) #[.agg #[.pointer (some ⟨7, 93, none⟩), .pointer (some a), .int .u64 150]]).run Tryz.prog w
   = .ok (.iface 195 (.agg #[.pointer (some ⟨7, 93, none⟩)])) w := by kernel_rfl
theorem As.kindP (w : World) : ((ReflectliteType.abiMethod fun t => (fun a : Nat => Value.int IntKind.u8 (a : Int)) <$> Rtype.kind t) #[.pointer (some ⟨7, 93, none⟩)]).run Tryz.prog w = .ok (.int .u8 22) w := by kernel_rfl
theorem As.kindL (w : World) : ((ReflectliteType.abiMethod fun t => (fun a : Nat => Value.int IntKind.u8 (a : Int)) <$> Rtype.kind t) #[.pointer (some ⟨7, 91, none⟩)]).run Tryz.prog w = .ok (.int .u8 25) w := by kernel_rfl
theorem As.rlm (z : Sem Value) (f : TypeId → Addr → Nat → Nat → Sem Value) (v : Value) :
   ReflectliteValue.method z f #[v] = (do match ← ReflectliteValue.parts v with | none => z | some (t, a, fl) => f t a fl (fl % 32)) := rfl
theorem As.partsP (a : Addr) (w : World) : (ReflectliteValue.parts (.agg #[.pointer (some ⟨7, 93, none⟩), .pointer (some a), .int .u64 150])).run Tryz.prog w = .ok (some (93, a, 150)) w := by kernel_rfl
theorem As.isNilP (a p : Addr) (W : World) (ha : W.cell? a = some (.pointer (some p))) :
   (ReflectliteValue.method (ReflectliteValue.valueError "reflectlite.Value.IsNil" 0) ReflectliteValue.isNil #[.agg #[.pointer (some ⟨7, 93, none⟩), .pointer (some a), .int .u64 150]]).run Tryz.prog W = .ok (.bool false) W := by
 rw [As.rlm]
 simp only [Sem.run_bind, As.partsP, Result.andThen]
 simp [ReflectliteValue.isNil, loadVar, isAgg, underlying, Tryz.underlying93, ha, Result.andThen]
theorem As.elemP (w : World) : (ReflectliteType.method ReflectliteType.elem #[.agg #[.pointer (some ⟨7, 93, none⟩)]]).run Tryz.prog w = .ok (.iface 195 (.agg #[.pointer (some ⟨7, 91, none⟩)])) w := by kernel_rfl
theorem As.implL (w : World) : (ReflectliteType.relation "Implements" ReflectliteType.implements_ #[.agg #[.pointer (some ⟨7, 91, none⟩)], .iface 195 (.agg #[.pointer (some ⟨7, 79, none⟩)])]).run Tryz.prog w = .ok (.bool true) w := by kernel_rfl
theorem As.typeOfL (v : Value) (w : World) : (ReflectliteType.typeOf #[.iface 91 v]).run Tryz.prog w = .ok (.iface 195 (.agg #[.pointer (some ⟨7, 91, none⟩)])) w := by kernel_rfl
theorem As.assignL (w : World) : (ReflectliteType.relation "AssignableTo" ReflectliteType.assignableTo #[.agg #[.pointer (some ⟨7, 91, none⟩)], .iface 195 (.agg #[.pointer (some ⟨7, 91, none⟩)])]).run Tryz.prog w = .ok (.bool true) w := by kernel_rfl
theorem As.valueOfL (x y : Int) (w : World) : (ReflectliteValue.unpack (.iface 91 (.agg #[.int .i64 x, .int .i64 y]))).run Tryz.prog w
   = .ok (.agg #[.pointer (some ⟨7, 91, none⟩), .pointer (some ⟨w.heap.size, 0, none⟩), .int .u64 153]) (w.alloc (.cells #[.int .i64 x, .int .i64 y] 91)) := by kernel_rfl
theorem As.elemOfP (w : World) : (Rtype.elem? 93).run Tryz.prog w = .ok (some 91) w := by kernel_rfl
theorem As.mkL (p : Addr) (w : World) : (ReflectliteValue.mk 91 p ReflectliteValue.flagAddr).run Tryz.prog w = .ok (.agg #[.pointer (some ⟨7, 91, none⟩), .pointer (some p), .int .u64 409]) w := by kernel_rfl
theorem As.elemVP (a p : Addr) (W : World) (ha : W.cell? a = some (.pointer (some p))) :
   (ReflectliteValue.method (ReflectliteValue.valueError "reflectlite.Value.Elem" 0) ReflectliteValue.elem #[.agg #[.pointer (some ⟨7, 93, none⟩), .pointer (some a), .int .u64 150]]).run Tryz.prog W
     = .ok (.agg #[.pointer (some ⟨7, 91, none⟩), .pointer (some p), .int .u64 409]) W := by
 rw [As.rlm]
 simp only [Sem.run_bind, As.partsP, Result.andThen]
 simp [ReflectliteValue.elem, loadVar, isAgg, underlying, Tryz.underlying93, ha, Result.andThen, As.elemOfP, As.mkL]
theorem As.rls (v x : Value) : ReflectliteValue.set #[v, x] = (do
   let (some (dst, a, fl), some (src, b, _)) := (← ReflectliteValue.parts v, ← ReflectliteValue.parts x)
     | unsupported (.noEntry "extern/(internal/reflectlite.Value).Set.zeroValue")
   if fl / ReflectliteValue.flagAddr % 2 == 0 then unsupported (.noEntry "extern/(internal/reflectlite.Value).Set.unaddressable")
   let val ← loadVar src b
   if ← Rtype.directlyAssignable dst src then storeVar dst a val
   else if ← Rtype.implements dst src then
     if (← Rtype.kind src) == 20 then
       match val with
       | .nilIface => unsupported (.noEntry "extern/reflectlite: a nil value of one interface type handed on as a value of another")
       | _ => storeVar dst a val
     else storeVar dst a (.iface src val)
   else panicString ("reflectlite.Set: value of type " ++ (← Rtype.spelt src) ++ " is not assignable to type " ++ (← Rtype.spelt dst))
   pure (.tuple #[])) := rfl
theorem As.partsLa (a : Addr) (w : World) : (ReflectliteValue.parts (.agg #[.pointer (some ⟨7, 91, none⟩), .pointer (some a), .int .u64 409])).run Tryz.prog w = .ok (some (91, a, 409)) w := by kernel_rfl
theorem As.partsL (a : Addr) (w : World) : (ReflectliteValue.parts (.agg #[.pointer (some ⟨7, 91, none⟩), .pointer (some a), .int .u64 153])).run Tryz.prog w = .ok (some (91, a, 153)) w := by kernel_rfl
theorem As.directL (w : World) : (Rtype.directlyAssignable 91 91).run Tryz.prog w = .ok true w := by kernel_rfl
theorem As.setL (t b : Nat) (x y : Int) (o0 o1 : Value) (W : World) (hb0 : W.cell? ⟨b, 0, none⟩ = some (.int .i64 x)) (hb1 : W.cell? ⟨b, 1, none⟩ = some (.int .i64 y)) (ht0 : W.cell? ⟨t, 0, none⟩ = some o0) (ht1 : W.cell? ⟨t, 1, none⟩ = some o1) (hf : ∀ i, W.frozen? ⟨t, i, none⟩ = false) :
   (ReflectliteValue.set #[.agg #[.pointer (some ⟨7, 91, none⟩), .pointer (some ⟨t, 0, none⟩), .int .u64 409], .agg #[.pointer (some ⟨7, 91, none⟩), .pointer (some ⟨b, 0, none⟩), .int .u64 153]]).run Tryz.prog W
     = .ok (.tuple #[]) ((W.setCell ⟨t, 0, none⟩ (.int .i64 x)).setCell ⟨t, 1, none⟩ (.int .i64 y)) := by
 rw [As.rls]
 simp only [Sem.run_bind, As.partsLa, As.partsL, Result.andThen]
 simp [ReflectliteValue.flagAddr, loadVar, isAgg, underlying, Tryz.underlying91, hb0, hb1, Result.andThen, As.directL, storeVar, Value.cells, storeCells, Addr.add, go_sem]
 simp [ht0, hf]
 rw [World.cell?_setCell_other _ _ _ _ (by simp), ht1]
set_option maxRecDepth 100000 in
set_option maxHeartbeats 8000000 in
theorem as_any (x y : Int) (t : Nat) (o0 o1 : Value) (w : World) (hg : w.cell? ⟨0, 0, none⟩ = some (.iface 195 (.agg #[.pointer (some ⟨7, 79, none⟩)]))) (BT : Blk w t [o0, o1]) :
   Calls Tryz.prog 47 #[.iface 91 (.agg #[.int .i64 x, .int .i64 y]), .iface 93 (.pointer (some ⟨t, 0, none⟩))] w fun e w' => e = .returned (.bool true) ∧ Blk w' t [.int .i64 x, .int .i64 y] ∧ Kept [t] w w' := by
 have h6 := @run_callFunc_extern Tryz.prog 77 _ (fun args => ReflectliteValue.unpack (args.getD 0 (.tuple #[]))) Tryz.func77 (by kernel_rfl) (by kernel_rfl) (by kernel_rfl) (by kernel_rfl)
 have h7 := @run_callFunc_extern Tryz.prog 78 _ (ReflectliteValue.methodAny (ReflectliteValue.valueError "reflectlite.Value.Type" 0) (fun t _ _ _ => ReflectliteType.toType t)) Tryz.func78 (by kernel_rfl) (by kernel_rfl) (by kernel_rfl) (by kernel_rfl)
 have h8 := @run_callFunc_extern Tryz.prog 79 _ (ReflectliteValue.method (ReflectliteValue.valueError "reflectlite.Value.IsNil" 0) ReflectliteValue.isNil) Tryz.func79 (by kernel_rfl) (by kernel_rfl) (by kernel_rfl) (by kernel_rfl)
 have h27 := @run_callFunc_extern Tryz.prog 215 _ (ReflectliteType.abiMethod fun t => do pure (.int .u8 (← Rtype.kind t))) Tryz.func215 (by kernel_rfl) (by kernel_rfl) (by kernel_rfl) (by kernel_rfl)
 have h37 := @run_callFunc_extern Tryz.prog 227 _ (ReflectliteType.method ReflectliteType.elem) Tryz.func227 (by kernel_rfl) (by kernel_rfl) (by kernel_rfl) (by kernel_rfl)
 have h38 := @run_callFunc_extern Tryz.prog 228 _ (ReflectliteType.relation "Implements" ReflectliteType.implements_) Tryz.func228 (by kernel_rfl) (by kernel_rfl) (by kernel_rfl) (by kernel_rfl)
 have h10 := @run_callFunc_extern Tryz.prog 118 _ ReflectliteType.typeOf Tryz.func118 (by kernel_rfl) (by kernel_rfl) (by kernel_rfl) (by kernel_rfl)
 have h35 := @run_callFunc_extern Tryz.prog 225 _ (ReflectliteType.relation "AssignableTo" ReflectliteType.assignableTo) Tryz.func225 (by kernel_rfl) (by kernel_rfl) (by kernel_rfl) (by kernel_rfl)
 have h11 := @run_callFunc_extern Tryz.prog 119 _ (ReflectliteValue.method (ReflectliteValue.valueError "reflectlite.Value.Elem" 0) ReflectliteValue.elem) Tryz.func119 (by kernel_rfl) (by kernel_rfl) (by kernel_rfl) (by kernel_rfl)
 have h12 := @run_callFunc_extern Tryz.prog 120 _ ReflectliteValue.set Tryz.func120 (by kernel_rfl) (by kernel_rfl) (by kernel_rfl) (by kernel_rfl)
 have tO := As.typeOfL
 have a25 := As.assignL
 have v25 := As.valueOfL
 have f6 := As.valueOfP
 have f7 := As.typeP
 have k27 := As.kindP
 have k25 := As.kindL
 have e27 := As.elemP
 have i25 := As.implL
 have ⟨LT, CT, FT⟩ := BT
 go_enter Tryz.func47, Tryz.ntmps47
 have hlt : 0 < w.heap.size := by
   rcases Nat.eq_zero_or_pos w.heap.size with h0 | h
   · simp [World.cell?, h0] at hg
   · exact h
 have n8 := As.isNilP ⟨w.heap.size, 0, none⟩ ⟨t, 0, none⟩ ((w.alloc (.cells #[.pointer (some ⟨t, 0, none⟩)] 93)).alloc (.cells #[.pointer (some ⟨7, 93, none⟩), .pointer (some ⟨w.heap.size, 0, none⟩), .int .u64 150] 134)) (by simp)
 have hg2 : ((w.alloc (.cells #[.pointer (some ⟨t, 0, none⟩)] 93)).alloc (.cells #[.pointer (some ⟨7, 93, none⟩), .pointer (some ⟨w.heap.size, 0, none⟩), .int .u64 150] 134)).cell? ⟨0, 0, none⟩ = some (.iface 195 (.agg #[.pointer (some ⟨7, 79, none⟩)])) := by
   rw [World.cell?_alloc_lt _ _ ⟨0, 0, none⟩ (by simp), World.cell?_alloc_lt _ _ ⟨0, 0, none⟩ hlt]; exact hg
 have el := As.elemVP ⟨w.heap.size, 0, none⟩ ⟨t, 0, none⟩ (((w.alloc (.cells #[.pointer (some ⟨t, 0, none⟩)] 93)).alloc (.cells #[.pointer (some ⟨7, 93, none⟩), .pointer (some ⟨w.heap.size, 0, none⟩), .int .u64 150] 134)).alloc (.cells #[.pointer (some ⟨7, 93, none⟩), .pointer (some ⟨w.heap.size, 0, none⟩), .int .u64 150] 134)) (by rw [World.cell?_alloc_lt _ _ ⟨w.heap.size, 0, none⟩ (by simp; omega)]; simp)
 have hk4 : Kept [] w ((((w.alloc (.cells #[.pointer (some ⟨t, 0, none⟩)] 93)).alloc (.cells #[.pointer (some ⟨7, 93, none⟩), .pointer (some ⟨w.heap.size, 0, none⟩), .int .u64 150] 134)).alloc (.cells #[.pointer (some ⟨7, 93, none⟩), .pointer (some ⟨w.heap.size, 0, none⟩), .int .u64 150] 134)).alloc (.cells #[.int .i64 x, .int .i64 y] 91)) := (((((Kept.refl [] w).alloc _).alloc _).alloc _).alloc _)
 have B4 : Blk ((((w.alloc (.cells #[.pointer (some ⟨t, 0, none⟩)] 93)).alloc (.cells #[.pointer (some ⟨7, 93, none⟩), .pointer (some ⟨w.heap.size, 0, none⟩), .int .u64 150] 134)).alloc (.cells #[.pointer (some ⟨7, 93, none⟩), .pointer (some ⟨w.heap.size, 0, none⟩), .int .u64 150] 134)).alloc (.cells #[.int .i64 x, .int .i64 y] 91)) t [o0, o1] := hk4.blk (by simp) BT
 have st := As.setL t (w.heap.size + 1 + 1 + 1) x y o0 o1 ((((w.alloc (.cells #[.pointer (some ⟨t, 0, none⟩)] 93)).alloc (.cells #[.pointer (some ⟨7, 93, none⟩), .pointer (some ⟨w.heap.size, 0, none⟩), .int .u64 150] 134)).alloc (.cells #[.pointer (some ⟨7, 93, none⟩), .pointer (some ⟨w.heap.size, 0, none⟩), .int .u64 150] 134)).alloc (.cells #[.int .i64 x, .int .i64 y] 91)) (by rw [World.cell?_alloc_at _ _ _ _ (by simp)]; rfl) (by rw [World.cell?_alloc_at _ _ _ _ (by simp)]; rfl) (B4.2.1 0) (B4.2.1 1) B4.2.2
 clear LT CT FT
 go_wp2
 refine wp_loop_rounds 1 ?_
 rw [rounds_succ]
 go_wp2
 go_ret
 refine ⟨rfl, (B4.set 0 _).set 1 _, ?_⟩
 exact ((((((Kept.refl [t] w).alloc _).alloc _).alloc _).alloc _).set t 0 _ (.inl (by simp))).set t 1 _ (.inl (by simp))
end Go.Proofs.YtooejoajojanjaaGreatDoor
