/- Summaries that came in as arguments, with their capacities. (Out of XRk.) -/
import Derived.Test.YtooejoajojanjaaGreatDoorXSf08
import Derived.Test.YtooejoajojanjaaGreatDoorXSf12
import Derived.Test.YtooejoajojanjaaGreatDoorXSf03
import Derived.Test.YtooejoajojanjaaGreatDoorXSf05
import Derived.Test.YtooejoajojanjaaGreatDoorXSf07
import Derived.Lib.SmallJoins
import Derived.Lib.ConvBytes
import Derived.Test.YtooejoajojanjaaGreatDoorProg
import Derived.Shelf.LaysM
import Derived.Shelf.Lays
namespace Go.Proofs.YtooejoajojanjaaGreatDoor
open Go.RowKit Go.ChangeShapes Go.WideShapes Go.Df Go.Df.If
section
variable {H : Type} {enc : TypeId × Value → H} {w : World} {base : Nat} {held : Bool}
theorem open_prsC {fuel : Nat} {v : Value} {x : DataW H × List MemPlace} (h : DataW.trod enc Tryz.prog w base (fun _ => true) held fuel 28 [v] = some x) : ∃ A n c l, v = .slice A n c ∧ n ≤ c ∧ n ≤ 9223372036854775807 ∧ Prs w A n l ∧ ∀ q ∈ l, (Lit.int .i64 q.i).wf = true := by
 obtain ⟨A, n, c, rfl, hnc, hn, hrow⟩ := open_rowsK Tryz.underlying28 hcp (by omega) h
 have hex : ∀ i, ∃ p : Pr, (Lit.int .i64 p.i).wf = true ∧ ∀ b o, A = some ⟨b, o, none⟩ → i < n → w.cell? ⟨b, o + i * 2, none⟩ = some (.int .i64 p.i) ∧ w.cell? ⟨b, o + i * 2 + 1, none⟩ = some (.int .i64 p.o) := by
   intro i
   by_cases hi : i < n
   · obtain ⟨b, o, rfl, hb, hc⟩ := hrow (by omega)
     obtain ⟨cs', m, y, -, hcell, htr⟩ := hc i hi
     obtain ⟨y0, y1, m1, -, -, h0, h1⟩ := Go.ChangeShapes.trod_struct2 Tryz.underlying72 htr
     obtain ⟨z0, e0, -, w0⟩ := DataW.trod_int Tryz.underlying3 h0
     obtain ⟨z1, e1, -, -⟩ := DataW.trod_int Tryz.underlying3 h1
     dsimp only at e0 e1
     rw [hci] at e0 e1
     refine ⟨⟨z0, z1⟩, w0, fun b' o' e' _ => ?_⟩
     injection e' with e'
     injection e' with e1' e2' _
     subst e1' e2'
     exact ⟨(hcell 0 (by omega)).trans (take1 e0), (hcell 1 (by omega)).trans (take1 e1)⟩
   · exact ⟨⟨0, 0⟩, by decide, fun _ _ _ h => absurd h hi⟩
 refine ⟨A, n, c, (List.range n).map (fun i => (hex i).choose), rfl, hnc, hn, ⟨by simp, fun h0 => ?_⟩, fun q hq => ?_⟩
 · obtain ⟨b, o, rfl, hb, -⟩ := hrow h0
   refine ⟨b, o, rfl, hb, fun i hi => ?_⟩
   rw [gp_mk1 hi]
   exact (hex i).choose_spec.2 b o rfl hi
 · obtain ⟨j, hj, rfl⟩ := List.mem_map.1 hq
   exact (hex j).choose_spec.1
set_option maxRecDepth 100000 in
/-- The parts of a summary. -/
theorem open_sumD {n : Nat} {cs' : List Value} {y : DataW H × List MemPlace} (h : DataW.trod enc Tryz.prog w base (fun _ => true) held n 30 cs' = some y) : ∃ f E ne ce T nt ct l1 l2, cs' = [.int .i64 f, .slice E ne ce, .slice T nt ct] ∧ ne ≤ ce ∧ nt ≤ ct ∧ Prs w E ne l1 ∧ Prs w T nt l2 ∧ (∀ q ∈ l1, (Lit.int .i64 q.i).wf = true) ∧ ∀ q ∈ l2, (Lit.int .i64 q.i).wf = true := by
 obtain ⟨y0, y1, y2, m, -, hl, h0, h1, h2⟩ := Go.Deep.trod_struct3 Tryz.underlying30 h
 rw [hcs] at hl
 match cs', hl with
 | [a, b, c], _ =>
 simp only [hci, hcq, List.drop_zero, List.drop_succ_cons, List.take_succ_cons, List.take_zero] at h0 h1 h2
 obtain ⟨f, e0, -, -⟩ := DataW.trod_int Tryz.underlying3 h0
 obtain ⟨E, ne, ce, l1, rfl, q1, -, hp1, hw1⟩ := open_prsC h1
 obtain ⟨T, nt, ct, l2, rfl, q2, -, hp2, hw2⟩ := open_prsC h2
 injection e0 with e0
 subst e0
 exact ⟨f, E, ne, ce, T, nt, ct, l1, l2, rfl, q1, q2, hp1, hp2, hw1, hw2⟩
theorem open_smC {fuel : Nat} {v : Value} {x : DataW H × List MemPlace} (h : DataW.trod enc Tryz.prog w base (fun _ => true) held fuel 22 [v] = some x) : ∃ A n c L, v = .slice A n c ∧ n ≤ 9223372036854775807 ∧ SmC w A n L := by
 obtain ⟨A, n, c, rfl, -, hn, hrow⟩ := open_rowsK Tryz.underlying22 hcs (by omega) h
 have hex : ∀ i, ∃ u : Su, ∀ b o, A = some ⟨b, o, none⟩ → i < n → ∃ E ne ce T nt ct, w.cell? ⟨b, o + i * 3, none⟩ = some (.int .i64 u.f) ∧ w.cell? ⟨b, o + i * 3 + 1, none⟩ = some (.slice E ne ce) ∧ w.cell? ⟨b, o + i * 3 + 2, none⟩ = some (.slice T nt ct) ∧ Prs w E ne u.x ∧ Prs w T nt u.y ∧ ne ≤ ce ∧ nt ≤ ct := by
   intro i
   by_cases hi : i < n
   · obtain ⟨b, o, rfl, hb, hc⟩ := hrow (by omega)
     obtain ⟨cs', m, y, -, hcell, htr⟩ := hc i hi
     obtain ⟨f, E, ne, ce, T, nt, ct, l1, l2, rfl, q1, q2, hp1, hp2, -, -⟩ := open_sumD htr
     refine ⟨⟨f, l1, l2⟩, fun b' o' e' _ => ?_⟩
     injection e' with e'
     injection e' with e1' e2' _
     subst e1' e2'
     exact ⟨E, ne, ce, T, nt, ct, hcell 0 (by omega), hcell 1 (by omega), hcell 2 (by omega), hp1, hp2, q1, q2⟩
   · exact ⟨⟨0, [], []⟩, fun _ _ _ h => absurd h hi⟩
 refine ⟨A, n, c, (List.range n).map (fun i => (hex i).choose), rfl, hn, ⟨by simp, fun h0 => ?_⟩⟩
 obtain ⟨b, o, rfl, hb, -⟩ := hrow h0
 refine ⟨b, o, rfl, hb, fun i hi => ?_⟩
 rw [gS_mk hi]
 exact (hex i).choose_spec b o rfl hi
end
end Go.Proofs.YtooejoajojanjaaGreatDoor
namespace Go.Df
open Go.RowKit
theorem dec_lt {m : Nat} (h : m < 10) : Lib.decDigits m = [UInt8.ofNat (48 + m)] := by rw [Lib.decDigits.eq_1, dif_pos h]
end Go.Df
namespace Go.Proofs.YtooejoajojanjaaGreatDoor
open Go.RowKit Go.Df Go.Df.If
attribute [local go_sem ↓] Go.wp_at_zero Go.wp_at_succ
end Go.Proofs.YtooejoajojanjaaGreatDoor
namespace Go.Df.If
open Go.RowKit Go.Df
def numI (w : Bs) : Int := match numB w with
 | none => -1
 | some n => n
def byt (s : Bs) (i : Nat) : UInt8 := s.getD i 0
theorem bs_get (s : Bs) (i : Nat) (h : i < (⟨s.toArray⟩ : ByteArray).size) : (⟨s.toArray⟩ : ByteArray)[i]'h = byt s i := by
 have h2 : i < s.length := by simpa [ByteArray.size] using h
 unfold byt
 rw [List.getD_eq_getElem?_getD, List.getElem?_eq_getElem h2]
 rfl
theorem bs_get2 (s : Bs) (i : Nat) (h : i < s.length) : s[i]'h = byt s i := by
 unfold byt
 rw [List.getD_eq_getElem?_getD, List.getElem?_eq_getElem h]
 rfl
theorem val_take {s : Bs} {i : Nat} (h : i < s.length) : valB (s.take (i + 1)) = 10 * valB (s.take i) + ((s.getD i 0).toNat - 48) := by
 unfold valB
 rw [List.take_succ_eq_append_getElem h, List.foldl_append, List.getD_eq_getElem?_getD, List.getElem?_eq_getElem h]
 rfl
theorem all_take {s : Bs} {i : Nat} (h : i < s.length) (h1 : (s.take i).all isD = true) (h2 : isD (s.getD i 0) = true) : (s.take (i + 1)).all isD = true := by
 rw [List.take_succ_eq_append_getElem h, List.all_append, h1]
 rw [List.getD_eq_getElem?_getD, List.getElem?_eq_getElem h] at h2
 simpa using h2
theorem all_not {s : Bs} {i : Nat} (h : i < s.length) (h2 : isD (s.getD i 0) = false) : s.all isD = false := by
 rw [List.getD_eq_getElem?_getD, List.getElem?_eq_getElem h] at h2
 rw [List.all_eq_false]
 exact ⟨s[i], List.getElem_mem h, by simpa using h2⟩
theorem val_lt {s : Bs} : ∀ i, i ≤ s.length → (s.take i).all isD = true → valB (s.take i) < 10 ^ i
 | 0, _, _ => by simp [valB]
 | i + 1, hi, h => by
   have h1 : (s.take i).all isD = true := by
     rw [List.take_succ_eq_append_getElem (by omega), List.all_append] at h
     exact (Bool.and_eq_true_iff.1 h).1
   have h2 : isD (s.getD i 0) = true := by
     rw [List.take_succ_eq_append_getElem (by omega), List.all_append] at h
     rw [List.getD_eq_getElem?_getD, List.getElem?_eq_getElem (by omega)]
     simpa using (Bool.and_eq_true_iff.1 h).2
   have h3 := val_lt i (by omega) h1
   have h4 : (s.getD i 0).toNat ≤ 57 := by
     unfold isD at h2
     simp only [Bool.and_eq_true, decide_eq_true_eq] at h2
     exact UInt8.le_iff_toNat_le.1 h2.2
   rw [val_take (by omega), Nat.pow_succ]
   omega
end Go.Df.If
namespace Go.Proofs.YtooejoajojanjaaGreatDoor
open Go.RowKit Go.Df Go.Df.If
attribute [local go_sem ↓] Go.wp_at_zero Go.wp_at_succ
attribute [local go_sem] bs_get bs_get2
end Go.Proofs.YtooejoajojanjaaGreatDoor
namespace Go.Df
open Go.RowKit
def strV (s : List UInt8) : Value := .string ⟨s.toArray⟩
def Strs (w : World) (A : Option Addr) (n : Nat) (l : List (List UInt8)) : Prop :=
 l.length = n ∧ (0 < n → ∃ b o, A = some ⟨b, o, none⟩ ∧ b < w.heap.size ∧ ∀ i, i < n → w.cell? ⟨b, o + i, none⟩ = some (strV (l.getD i [])))
theorem Strs.later {w w' : World} {A : Option Addr} {n : Nat} {l : List (List UInt8)} (h : Strs w A n l) (hb : Below w.heap.size w w') : Strs w' A n l :=
 ⟨h.1, fun hn => by
   obtain ⟨b, o, e, hl, hc⟩ := h.2 hn
   exact ⟨b, o, e, Nat.lt_of_lt_of_le hl hb.size, fun i hi => (hb.cell (p := ⟨b, _, none⟩) hl).trans (hc i hi)⟩⟩
theorem Strs.ofOwn {w : World} {base : Nat} {e : TypeId} {A : Option Addr} {n c : Nat} {l : List (List UInt8)} (h : w.ownsRow base e 1 (.slice A n c) n (l.map strV)) : Strs w A n l ∧ n ≤ c := by
 have hl : l.length = n := by simpa using h.1
 by_cases h0 : 0 < n
 · obtain ⟨g, c', hv, hb, hg, hc, -, hcell, -⟩ := own_cellsT h h0
   injection hv with e1 e2 e3
   subst e1
   subst e3
   refine ⟨⟨hl, fun _ => ⟨g, 0, rfl, hg, fun i hi => ?_⟩⟩, hc⟩
   rw [Nat.zero_add, hcell i (by omega), List.getElem?_map, List.getElem?_eq_getElem (by omega), List.getD_eq_getElem?_getD, List.getElem?_eq_getElem (by omega)]
   rfl
 · exact ⟨⟨hl, fun h => absurd h h0⟩, by omega⟩
def GetW (w : World) (l : List (List UInt8)) (e : Ending) (w' : World) : Prop := ∃ A n c, e = .returned (.slice A n c) ∧ Strs w' A n l ∧ Below w.heap.size w w'
theorem Strs.two {w : World} {A : Option Addr} {n : Nat} {x0 x1 : List UInt8} (h : Strs w A n [x0, x1]) : n = 2 ∧ ∃ b o, A = some ⟨b, o, none⟩ ∧ b < w.heap.size ∧ w.cell? ⟨b, o, none⟩ = some (.string ⟨x0.toArray⟩) ∧ w.cell? ⟨b, o + 1, none⟩ = some (.string ⟨x1.toArray⟩) := by
 obtain ⟨h1, h2⟩ := h
 obtain rfl : n = 2 := h1.symm
 obtain ⟨b, o, e, hl, hc⟩ := h2 (by omega)
 exact ⟨rfl, b, o, e, hl, hc 0 (by omega), hc 1 (by omega)⟩
theorem Strs.three {w : World} {A : Option Addr} {n : Nat} {x0 x1 x2 : List UInt8} (h : Strs w A n [x0, x1, x2]) : n = 3 ∧ ∃ b o, A = some ⟨b, o, none⟩ ∧ b < w.heap.size ∧ w.cell? ⟨b, o, none⟩ = some (.string ⟨x0.toArray⟩) ∧ w.cell? ⟨b, o + 1, none⟩ = some (.string ⟨x1.toArray⟩) ∧ w.cell? ⟨b, o + 2, none⟩ = some (.string ⟨x2.toArray⟩) := by
 obtain ⟨h1, h2⟩ := h
 obtain rfl : n = 3 := h1.symm
 obtain ⟨b, o, e, hl, hc⟩ := h2 (by omega)
 exact ⟨rfl, b, o, e, hl, hc 0 (by omega), hc 1 (by omega), hc 2 (by omega)⟩
namespace If
end If
end Go.Df
namespace Go.Proofs.YtooejoajojanjaaGreatDoor
open Go.RowKit Go.Df Go.Df.If
attribute [local go_sem ↓] Go.wp_at_zero Go.wp_at_succ
attribute [local go_sem] bs_get bs_get2
end Go.Proofs.YtooejoajojanjaaGreatDoor
namespace Go.Df
open Go.RowKit
theorem own_put {w : World} {base : Nat} {e : TypeId} {k n c g i : Nat} {xs : List Value} (h : w.ownsRow base e k (.slice (some ⟨g, 0, none⟩) n c) n xs) (v : Value) : (w.setCell ⟨g, i, none⟩ v).ownsRow base e k (.slice (some ⟨g, 0, none⟩) n c) n (xs.set i v) := by
 refine ⟨by rw [List.length_set]; exact h.1, ?_⟩
 rcases h.2 with ⟨h1, _⟩ | ⟨g', cap, cur, h1, hb, hh, hnc, hcm, hcs, htk⟩
 · cases h1
 · injection h1 with h1 _ h3
   injection h1 with h1
   injection h1 with h1 _ _
   subst h1
   subst h3
   refine .inr ⟨g, c, cur.setIfInBounds i v, rfl, hb, ?_, hnc, hcm, by simpa using hcs, ?_⟩
   · unfold World.setCell
     simp only [Array.getElem?_modify]
     simp [hh]
   · rw [Array.toList_setIfInBounds, List.take_set, htk]
theorem own_shape {w : World} {base : Nat} {e : TypeId} {k n : Nat} {v : Value} {xs : List Value} (h : w.ownsRow base e k v n xs) : ∃ A c, v = .slice A n c := by
 rcases h.2 with ⟨rfl, rfl⟩ | ⟨g, cap, cur, rfl, _⟩
 · exact ⟨_, _, rfl⟩
 · exact ⟨_, _, rfl⟩
theorem own_blk {w : World} {base : Nat} {e : TypeId} {k n : Nat} {v : Value} {xs : List Value} (h : w.ownsRow base e k v n xs) {g : Nat} (hg : v.ownBlock = some g) : base ≤ g ∧ g < w.heap.size := by
 rcases h.2 with ⟨rfl, _⟩ | ⟨g', cap, cur, rfl, h3, h4, _⟩
 · cases hg
 · obtain rfl : g' = g := by simpa [Value.ownBlock] using hg
   exact ⟨h3, (Array.getElem?_eq_some_iff.1 h4).1⟩
namespace If
def prC (l : List Pr) : List Value := l.flatMap fun p => [.int .i64 p.i, .int .i64 p.o]
theorem prC_snoc (l : List Pr) (a b : Int) : prC l ++ [.int .i64 a, .int .i64 b] = prC (l ++ [⟨a, b⟩]) := by simp [prC]
theorem prC_len (l : List Pr) : (prC l).length = l.length * 2 := by
 induction l with
 | nil => rfl
 | cons p l ih =>
   show (Value.int .i64 p.i :: Value.int .i64 p.o :: prC l).length = _
   simp [ih]
   omega
theorem prC_get : ∀ {l : List Pr} {i : Nat}, i < l.length → (prC l)[i * 2]? = some (.int .i64 (gp l i).i) ∧ (prC l)[i * 2 + 1]? = some (.int .i64 (gp l i).o)
 | [], _, h => absurd h (by simp)
 | p :: l, 0, _ => ⟨rfl, rfl⟩
 | p :: l, i + 1, h => by
   have h9 := prC_get (l := l) (i := i) (by simpa using h)
   have e1 : (i + 1) * 2 = i * 2 + 1 + 1 := by omega
   have e2 : gp (p :: l) (i + 1) = gp l i := by rw [gp_lt h, gp_lt (by simpa using h)]; rfl
   rw [e1, e2]
   exact h9
theorem Prs.ofOwn {w : World} {base : Nat} {e : TypeId} {A : Option Addr} {n m c : Nat} {l : List Pr} (h : w.ownsRow base e 2 (.slice A n c) m (prC l)) : Prs w A n l ∧ n = m := by
 obtain ⟨A', c', e9⟩ := own_shape h
 injection e9 with e1 e2 e3
 subst e2
 have hl : l.length = n := by have h1 := h.1; rw [prC_len] at h1; omega
 refine ⟨⟨hl, fun h0 => ?_⟩, rfl⟩
 obtain ⟨g, c', hv, hb, hg, hc, -, hcell, -⟩ := own_cellsT h h0
 injection hv with e1 e2 e3
 subst e1
 refine ⟨g, 0, rfl, hg, fun i hi => ?_⟩
 rw [Nat.zero_add, hcell _ (by omega), hcell _ (by omega)]
 exact prC_get (by omega)
def lsB (u : Su) : Bool → List Pr
 | false => u.x
 | true => u.y
structure SmO (w : World) (base : Nat) (ts tp : TypeId) (A : Option Addr) (n c : Nat) (L : List Su) (R : Nat → Bool → Value) (cs : List Value) : Prop where
 len : L.length = n
 own : w.ownsRow base ts 3 (.slice A n c) n cs
 cell : ∀ i, i < n → cs[i * 3]? = some (.int .i64 (gS L i).f) ∧ cs[i * 3 + 1]? = some (R i false) ∧ cs[i * 3 + 2]? = some (R i true)
 row : ∀ i b, i < n → w.ownsRow base tp 2 (R i b) (lsB (gS L i) b).length (prC (lsB (gS L i) b))
 dif : ∀ i j a b, i < n → j < n → (i ≠ j ∨ a ≠ b) → ∀ g, (R i a).ownBlock = some g → (R j b).ownBlock ≠ some g
section
variable {w w' : World} {base n c : Nat} {ts tp : TypeId} {A : Option Addr} {L : List Su} {R : Nat → Bool → Value} {cs : List Value}
theorem SmO.nil (w : World) (base : Nat) (ts tp : TypeId) (R : Nat → Bool → Value) : SmO w base ts tp none 0 0 [] R [] :=
 ⟨rfl, World.ownsRow_nil _ _ _ _, fun i hi => absurd hi (by omega), fun i _ hi => absurd hi (by omega), fun i _ _ _ hi => absurd hi (by omega)⟩
theorem SmO.cslen (h : SmO w base ts tp A n c L R cs) : cs.length = n * 3 := h.own.1
theorem SmO.kept {X : List Nat} (h : SmO w base ts tp A n c L R cs) (hk : Kept X w w') (hA : ∀ g, (Value.slice A n c).ownBlock = some g → g ∉ X) (hR : ∀ i b g, i < n → (R i b).ownBlock = some g → g ∉ X) : SmO w' base ts tp A n c L R cs :=
 ⟨h.len, own_keptT h.own hk hA, h.cell, fun i b hi => own_keptT (h.row i b hi) hk (fun g hg => hR i b g hi hg), h.dif⟩
theorem SmO.keep (h : SmO w base ts tp A n c L R cs) (hk : Kept [] w w') : SmO w' base ts tp A n c L R cs := h.kept hk (by simp) (by simp)
theorem SmO.apart (h : SmO w base ts tp A n c L R cs) (hne : ts ≠ tp) {i : Nat} {b : Bool} {g k : Nat} (hi : i < n) (hg : (R i b).ownBlock = some g) (hk : (Value.slice A n c).ownBlock = some k) : g ≠ k :=
 (own_tag (h.row i b hi) hg).ne (own_tag h.own hk) (fun e => hne e.symm)
theorem SmO.sm (h : SmO w base ts tp A n c L R cs) : SmW w A n L :=
 ⟨h.len, fun h0 => by
   obtain ⟨g, c', hv, hb, hg, hc, -, hcell, -⟩ := own_cellsT h.own h0
   injection hv with e1 e2 e3
   subst e1
   refine ⟨g, 0, rfl, hg, fun i hi => ?_⟩
   obtain ⟨k0, k1, k2⟩ := h.cell i hi
   obtain ⟨E, ce, e0⟩ := own_shape (h.row i false hi)
   obtain ⟨T, ct, e1⟩ := own_shape (h.row i true hi)
   have r0 := h.row i false hi
   have r1 := h.row i true hi
   rw [e0] at r0
   rw [e1] at r1
   rw [Nat.zero_add, hcell _ (by omega), hcell _ (by omega), hcell _ (by omega), k0, k1, k2, e0, e1]
   exact ⟨E, _, ce, T, _, ct, rfl, rfl, rfl, (Prs.ofOwn r0).1, (Prs.ofOwn r1).1⟩⟩
theorem SmO.push (h : SmO w base ts tp A n c L R cs) (hne : ts ≠ tp) {A' : Option Addr} {c' : Nat} {v0 v1 : Value} {u : Su} {cs' : List Value} (hcs : cs' = cs ++ [.int .i64 u.f, v0, v1])
   (hown : w'.ownsRow base ts 3 (.slice A' (n + 1) c') (n + 1) cs') (hk : Kept (Value.slice A n c).ownBlock.toList w w')
   (h0 : w.ownsRow base tp 2 v0 u.x.length (prC u.x)) (h1 : w.ownsRow base tp 2 v1 u.y.length (prC u.y))
   (hd : ∀ i b, i < n → ∀ g, (R i b).ownBlock = some g → v0.ownBlock ≠ some g ∧ v1.ownBlock ≠ some g) (hd1 : ∀ g, v0.ownBlock = some g → v1.ownBlock ≠ some g) :
   SmO w' base ts tp A' (n + 1) c' (L ++ [u]) (fun i b => if i = n then (if b then v1 else v0) else R i b) cs' := by
 subst hcs
 have hl := h.cslen
 have hgl : ∀ i, i < n → gS (L ++ [u]) i = gS L i := fun i hi => gS_app (by rw [h.len]; exact hi)
 have hgn : gS (L ++ [u]) n = u := by rw [← h.len]; exact gS_at
 have hX : ∀ {v : Value} {m : Nat} {xs : List Value}, w.ownsRow base tp 2 v m xs → w'.ownsRow base tp 2 v m xs := fun {v m xs} hv => own_keptT hv hk (fun g hg hm => by
   have hm : (Value.slice A n c).ownBlock = some g := by simpa using hm
   exact (own_tag hv hg).ne (own_tag h.own hm) (fun e => hne e.symm) rfl)
 refine ⟨by rw [List.length_append, h.len]; rfl, hown, fun i hi => ?_, fun i b hi => ?_, fun i j a b hi hj hij => ?_⟩
 · by_cases e : i = n
   · subst e
     rw [if_pos rfl, if_pos rfl, hgn, List.getElem?_append_right (by omega), List.getElem?_append_right (by omega), List.getElem?_append_right (by omega), hl]
     simp
   · obtain ⟨k0, k1, k2⟩ := h.cell i (by omega)
     rw [if_neg e, if_neg e, hgl i (by omega), List.getElem?_append_left (by omega), List.getElem?_append_left (by omega), List.getElem?_append_left (by omega)]
     exact ⟨k0, k1, k2⟩
 · by_cases e : i = n
   · subst e
     rw [if_pos rfl, hgn]
     cases b with
     | false => exact hX h0
     | true => exact hX h1
   · rw [if_neg e, hgl i (by omega)]
     exact hX (h.row i b (by omega))
 · by_cases ei : i = n
   · by_cases ej : j = n
     · rw [if_pos ei, if_pos ej]
       cases a <;> cases b
       · rcases hij with h9 | h9
         · exact absurd (ei.trans ej.symm) h9
         · exact absurd rfl h9
       · exact hd1
       · exact fun g hg h9 => hd1 g h9 hg
       · rcases hij with h9 | h9
         · exact absurd (ei.trans ej.symm) h9
         · exact absurd rfl h9
     · rw [if_pos ei, if_neg ej]
       intro g hg h9
       have := hd j b (by omega) g h9
       cases a
       · exact this.1 hg
       · exact this.2 hg
   · by_cases ej : j = n
     · rw [if_neg ei, if_pos ej]
       intro g hg
       have := hd i a (by omega) g hg
       cases b
       · exact this.1
       · exact this.2
     · rw [if_neg ei, if_neg ej]
       exact h.dif i j a b (by omega) (by omega) hij
theorem SmO.init {A' : Option Addr} {n' c' : Nat} (h : SmO w base ts tp A n c L R cs) (hn : n = n' + 1) (hk : Kept [] w w') (hown : w'.ownsRow base ts 3 (.slice A' n' c') n' (cs.take (n' * 3))) : SmO w' base ts tp A' n' c' L.dropLast R (cs.take (n' * 3)) := by
 subst hn
 have hl := h.cslen
 have hgl : ∀ i, i < n' → gS L.dropLast i = gS L i := fun i hi => by
   have h9 := h.len
   unfold gS
   rw [List.getD_eq_getElem?_getD, List.getD_eq_getElem?_getD, List.getElem?_dropLast, if_pos (by omega)]
 refine ⟨by rw [List.length_dropLast, h.len]; rfl, hown, fun i hi => ?_, fun i b hi => ?_, fun i j a b hi hj => h.dif i j a b (by omega) (by omega)⟩
 · obtain ⟨k0, k1, k2⟩ := h.cell i (by omega)
   rw [hgl i hi, List.getElem?_take_of_lt (by omega), List.getElem?_take_of_lt (by omega), List.getElem?_take_of_lt (by omega)]
   exact ⟨k0, k1, k2⟩
 · rw [hgl i hi]
   exact own_keptT (h.row i b (by omega)) hk (by simp)
def updB (u : Su) (l : List Pr) : Bool → Su
 | false => ⟨u.f, l, u.y⟩
 | true => ⟨u.f, u.x, l⟩
def updR (R : Nat → Bool → Value) (n : Nat) (b : Bool) (v : Value) : Nat → Bool → Value := fun i a => if i = n ∧ a = b then v else R i a
def offB : Bool → Nat
 | false => 1
 | true => 2
theorem SmO.put {g n' : Nat} {w1 : World} (h : SmO w base ts tp (some ⟨g, 0, none⟩) n c L R cs) (hne : ts ≠ tp) (hn : n = n' + 1) (b : Bool) {v : Value} {l : List Pr} {k : Nat} (hk : Kept (R n' b).ownBlock.toList w w1)
   (hv : w1.ownsRow base tp 2 v l.length (prC l)) (hnew : ∀ x, v.ownBlock = some x → (R n' b).ownBlock = some x ∨ w.heap.size ≤ x) (hkk : k = n' * 3 + offB b) :
   SmO (w1.setCell ⟨g, k, none⟩ v) base ts tp (some ⟨g, 0, none⟩) n c (L.dropLast ++ [updB (gS L n') l b]) (updR R n' b v) (cs.set k v) := by
 subst hn hkk
 have hl := h.cslen
 have hdl : L.dropLast.length = n' := by rw [List.length_dropLast, h.len]; rfl
 have hgl : ∀ i, i < n' → gS (L.dropLast ++ [updB (gS L n') l b]) i = gS L i := fun i hi => by
   rw [gS_app (by omega)]
   have h9 := h.len
   unfold gS
   rw [List.getD_eq_getElem?_getD, List.getD_eq_getElem?_getD, List.getElem?_dropLast, if_pos (by omega)]
 have hgn : gS (L.dropLast ++ [updB (gS L n') l b]) n' = updB (gS L n') l b := by
   have h9 := gS_at (M := L.dropLast) (R := []) (u := updB (gS L n') l b)
   rw [hdl] at h9
   exact h9
 have hgA : (Value.slice (some ⟨g, 0, none⟩) (n' + 1) c).ownBlock = some g := rfl
 have tg : Tag w g ts := own_tag h.own hgA
 have hg0 : g ∉ (R n' b).ownBlock.toList := fun hm => h.apart hne (i := n') (b := b) (by omega) (by simpa using hm) hgA rfl
 have ownA : w1.ownsRow base ts 3 (.slice (some ⟨g, 0, none⟩) (n' + 1) c) (n' + 1) cs := own_keptT h.own hk (fun x hx => by
   obtain rfl : g = x := by simpa [Value.ownBlock] using hx
   exact hg0)
 have tg1 : Tag w1 g ts := own_tag ownA hgA
 have hset : ∀ {v' : Value} {m : Nat} {xs : List Value}, w1.ownsRow base tp 2 v' m xs → (w1.setCell ⟨g, n' * 3 + offB b, none⟩ v).ownsRow base tp 2 v' m xs := fun {v' m xs} hv' => ownsRow_setCell_other hv' (by
   intro h9
   exact (own_tag hv' h9).ne tg1 (fun e => hne e.symm) rfl) _
 have hrow : ∀ i a, i < n' + 1 → ¬ (i = n' ∧ a = b) → w1.ownsRow base tp 2 (R i a) (lsB (gS L i) a).length (prC (lsB (gS L i) a)) := fun i a hi hia => own_keptT (h.row i a hi) hk (fun x hx hm => by
   refine h.dif i n' a b hi (by omega) ?_ x hx (by simpa using hm)
   by_cases e : i = n'
   · exact .inr fun e2 => hia ⟨e, e2⟩
   · exact .inl e)
 refine ⟨by rw [List.length_append, hdl]; rfl, own_put ownA v, fun i hi => ?_, fun i a hi => ?_, fun i j a a' hi hj hij => ?_⟩
 · obtain ⟨k0, k1, k2⟩ := h.cell i hi
   have hfe : (gS (L.dropLast ++ [updB (gS L n') l b]) i).f = (gS L i).f := by
     by_cases e : i = n'
     · subst e; rw [hgn]; cases b <;> rfl
     · rw [hgl i (by omega)]
   unfold updR
   rw [hfe]
   by_cases e : i = n'
   · subst e
     cases b
     · rw [show offB false = 1 from rfl, List.getElem?_set_ne (by omega), List.getElem?_set_self (by omega), List.getElem?_set_ne (by omega)]
       exact ⟨k0, by simp, by simpa using k2⟩
     · rw [show offB true = 2 from rfl, List.getElem?_set_ne (by omega), List.getElem?_set_ne (by omega), List.getElem?_set_self (by omega)]
       exact ⟨k0, by simpa using k1, by simp⟩
   · have ho : offB b = 1 ∨ offB b = 2 := by cases b <;> simp [offB]
     rw [List.getElem?_set_ne (by omega), List.getElem?_set_ne (by omega), List.getElem?_set_ne (by omega), if_neg (fun h9 => e h9.1), if_neg (fun h9 => e h9.1)]
     exact ⟨k0, k1, k2⟩
 · unfold updR
   by_cases e : i = n' ∧ a = b
   · obtain ⟨rfl, rfl⟩ := e
     rw [if_pos ⟨rfl, rfl⟩, hgn]
     have e9 : lsB (updB (gS L i) l a) a = l := by cases a <;> rfl
     rw [e9]
     exact hset hv
   · rw [if_neg e]
     have e9 : lsB (gS (L.dropLast ++ [updB (gS L n') l b]) i) a = lsB (gS L i) a := by
       by_cases ei : i = n'
       · subst ei
         rw [hgn]
         cases a <;> cases b <;> first | rfl | exact absurd ⟨rfl, rfl⟩ e
       · rw [hgl i (by omega)]
     rw [e9]
     exact hset (hrow i a hi e)
 · unfold updR
   by_cases e1 : i = n' ∧ a = b
   · have e2 : ¬ (j = n' ∧ a' = b) := fun e2 => by
       rcases hij with h9 | h9
       · exact h9 (e1.1.trans e2.1.symm)
       · exact h9 (e1.2.trans e2.2.symm)
     rw [if_pos e1, if_neg e2]
     intro x hx h9
     rcases hnew x hx with h8 | h8
     · refine h.dif n' j b a' (by omega) hj ?_ x h8 h9
       by_cases e : n' = j
       · exact .inr fun e3 => e2 ⟨e.symm, e3.symm⟩
       · exact .inl e
     · have := (own_blk (h.row j a' hj) h9).2
       omega
   · rw [if_neg e1]
     by_cases e2 : j = n' ∧ a' = b
     · rw [if_pos e2]
       intro x hx h9
       rcases hnew x h9 with h8 | h8
       · refine h.dif i n' a b hi (by omega) ?_ x hx h8
         by_cases e : i = n'
         · exact .inr fun e3 => e1 ⟨e, e3⟩
         · exact .inl e
       · have := (own_blk (h.row i a hi) hx).2
         omega
     · rw [if_neg e2]
       exact h.dif i j a a' hi hj hij
end
end If
end Go.Df
namespace Go.Df
open Go.RowKit
theorem new2P (w : World) (b : Nat) (u v : Value) (t : TypeId) (hb : b = w.heap.size) : Rd (w.alloc (.cells #[u, v] t)) 2 (some ⟨b, 0, none⟩) 1 [u, v] := by
 subst hb
 refine ⟨rfl, fun _ => ⟨_, _, rfl, by simp, fun j _ => ?_⟩⟩
 rw [World.cell?_alloc_new, Nat.zero_add]; simp
theorem new3P (w : World) (b : Nat) (u v x : Value) (t : TypeId) (hb : b = w.heap.size) : Rd (w.alloc (.cells #[u, v, x] t)) 3 (some ⟨b, 0, none⟩) 1 [u, v, x] := by
 subst hb
 refine ⟨rfl, fun _ => ⟨_, _, rfl, by simp, fun j _ => ?_⟩⟩
 rw [World.cell?_alloc_new, Nat.zero_add]; simp
namespace If
theorem Prs.rd {w : World} {A : Option Addr} {n : Nat} {l : List Pr} (h : Prs w A n l) : Rd w 2 A n (prC l) := by
 refine ⟨by rw [prC_len, h.1], fun hn => ?_⟩
 obtain ⟨b, o, e, hl, hc⟩ := h.2 hn
 refine ⟨b, o, e, hl, fun j hj => ?_⟩
 have hd := h.1
 obtain ⟨h1, h2⟩ := hc (j / 2) (by omega)
 obtain ⟨g1, g2⟩ := prC_get (l := l) (i := j / 2) (by omega)
 rcases Nat.mod_two_eq_zero_or_one j with hm | hm
 · have e1 : j / 2 * 2 = j := by omega
   rw [e1] at h1 g1
   rw [h1, g1]
 · have e1 : j / 2 * 2 + 1 = j := by omega
   rw [Nat.add_assoc, e1] at h2
   rw [e1] at g2
   rw [h2, g2]
theorem SmO.rd {w : World} {base n m c : Nat} {ts tp : TypeId} {A : Option Addr} {L : List Su} {R : Nat → Bool → Value} {cs : List Value} (h : SmO w base ts tp A n c L R cs) (hm : m ≤ n) : Rd w 3 A m (cs.take (m * 3)) := by
 have hl := h.cslen
 refine ⟨by rw [List.length_take]; omega, fun h0 => ?_⟩
 obtain ⟨g, c', hv, hb, hg, hc, -, hcell, -⟩ := own_cellsT h.own (by omega)
 injection hv with e1 e2 e3
 subst e1
 refine ⟨g, 0, rfl, hg, fun j hj => ?_⟩
 rw [Nat.zero_add, hcell j (by omega), List.getElem?_take_of_lt hj]
theorem SmO.cells {w : World} {base n c : Nat} {ts tp : TypeId} {A : Option Addr} {L : List Su} {R : Nat → Bool → Value} {cs : List Value} (h : SmO w base ts tp A n c L R cs) : ∀ u ∈ cs, u.oneCell' = true := by
 intro u hu
 obtain ⟨j, hj, rfl⟩ := List.getElem_of_mem hu
 have hl := h.cslen
 have hi : j / 3 < n := by omega
 obtain ⟨k0, k1, k2⟩ := h.cell (j / 3) hi
 have e9 : cs[j]? = some cs[j] := List.getElem?_eq_getElem hj
 have ho : j = j / 3 * 3 ∨ j = j / 3 * 3 + 1 ∨ j = j / 3 * 3 + 2 := by omega
 obtain ⟨E, ce, e0⟩ := own_shape (h.row (j / 3) false hi)
 obtain ⟨T, ct, e1⟩ := own_shape (h.row (j / 3) true hi)
 rcases ho with e | e | e
 · rw [← e, e9] at k0
   rw [Option.some.inj k0]
   rfl
 · rw [← e, e9, e0] at k1
   rw [Option.some.inj k1]
   rfl
 · rw [← e, e9, e1] at k2
   rw [Option.some.inj k2]
   rfl
end If
end Go.Df
namespace Go.Proofs.YtooejoajojanjaaGreatDoor
open Go.RowKit Go.Df Go.Df.If
attribute [local go_sem ↓] Go.wp_at_zero Go.wp_at_succ
theorem pairf_info : (Tryz.prog.info? 72).map (fun i => (i.zero, i.size, i.bytes)) = some (some (.agg #[.int .i64 0, .int .i64 0]), 2, 16) := by kernel_rfl
theorem sumf_info : (Tryz.prog.info? 30).map (fun i => (i.zero, i.size, i.bytes)) = some (some (.agg #[.int .i64 0, .slice none 0 0, .slice none 0 0]), 3, 56) := by kernel_rfl
end Go.Proofs.YtooejoajojanjaaGreatDoor
namespace Go.Df
open Go.RowKit
theorem keptBelow {X : List Nat} {base : Nat} {w w' : World} (h : Kept X w w') (hX : ∀ y ∈ X, base ≤ y) (hb : base ≤ w.heap.size) : Below base w w' :=
 ⟨h.os, h.tape, h.output, h.size, fun k hk => h.block k (by omega) (fun hm => by have := hX k hm; omega)⟩
theorem Kept.below0 {base : Nat} {w w' : World} (h : Kept [] w w') (hb : base ≤ w.heap.size) : Below base w w' := keptBelow h (by simp) hb
namespace If
theorem spl_len : ∀ (s : Bs), ∀ x ∈ splW s, x.length ≤ s.length
 | [], x, hx => by simp [splW] at hx; simp [hx]
 | c :: s, x, hx => by
   have ih := spl_len s
   rw [splW] at hx
   split at hx
   · rcases List.mem_cons.1 hx with h | h
     · simp [h]
     · have := ih x h
       simp; omega
   · cases hs : splW s with
     | nil => exact absurd hs (spl_ne s)
     | cons v ws =>
       rw [hs] at hx ih
       rcases List.mem_cons.1 hx with h | h
       · have := ih v (by simp)
         simp [h]; omega
       · have := ih x (by simp [h])
         simp; omega
def GetP (base : Nat) (ts tp : TypeId) (w : World) (r : Int × List Su) (e : Ending) (w' : World) : Prop := ∃ A n c, e = .returned (.tuple #[.slice A n c, .int .i64 r.1]) ∧ (r.1 = 0 → ∃ R cs, SmO w' base ts tp A n c r.2 R cs) ∧ Below base w w'
theorem lin_two {L : List Su} {s x0 x1 : Bs} (h : splW s = [x0, x1]) : linS L s = match numB x1 with | some n => if x0 = kwF then (if sumErr 1024 (L ++ [⟨n, [], []⟩]) = 0 then (0, L ++ [⟨n, [], []⟩]) else (sumErr 1024 (L ++ [⟨n, [], []⟩]), [])) else (2, []) | none => (2, []) := by
 unfold linS; rw [h]; rfl
theorem lin_other {L : List Su} {s : Bs} (h2 : (splW s).length ≠ 2) (h3 : (splW s).length ≠ 3) : linS L s = (2, []) := by
 unfold linS linW
 split
 · rename_i e; rw [e] at h2; exact absurd rfl h2
 · rename_i e; rw [e] at h3; exact absurd rfl h3
 · rfl
def errL (e : Int) (L : List Su) : Int × List Su := if e = 0 then (0, L) else (e, [])
theorem errL_1 (e : Int) (L : List Su) : (errL e L).1 = e := by unfold errL; split <;> simp_all
theorem errL_2 {e : Int} {L : List Su} (h : (errL e L).1 = 0) : (errL e L).2 = L := by rw [errL_1] at h; unfold errL; rw [if_pos h]
theorem lin_three {L : List Su} {s x0 x1 x2 : Bs} (h : splW s = [x0, x1, x2]) : linS L s = match numB x1, numB x2 with
   | some a, some b => if L = [] then (2, []) else if x0 = kwT then errL (sumErr 1024 (addY L ⟨a, b⟩)) (addY L ⟨a, b⟩) else if x0 = kwE then (if (gS L (L.length - 1)).y ≠ [] then (13, []) else errL (sumErr 1024 (addX L ⟨a, b⟩)) (addX L ⟨a, b⟩)) else (2, [])
   | _, _ => (2, []) := by
 unfold linS; rw [h]
 unfold linW errL
 dsimp only
 cases numB x1 with
 | none => rfl
 | some a => cases numB x2 with
   | none => rfl
   | some b =>
     dsimp only
     repeat' split
     all_goals first | rfl | simp_all
end If
end Go.Df
namespace Go.Proofs.YtooejoajojanjaaGreatDoor
open Go.RowKit Go.Df Go.Df.If
attribute [local go_sem ↓] Go.wp_at_zero Go.wp_at_succ
end Go.Proofs.YtooejoajojanjaaGreatDoor
namespace Go.Df.If
open Go.RowKit Go.Df
def parF (n : Nat) (L : List Su) (s : Bs) : List Su × Int × Int := parR (s.length + 1) n L s
theorem parF_nil (n : Nat) (L : List Su) : parF n L [] = (L, 0, 0) := by
 unfold parF
 rw [parR, if_pos rfl]
theorem parF_some {n : Nat} {L : List Su} {s a r : Bs} (h : cutN s = some (a, r)) : parF n L s = if (linS L a).1 ≠ 0 then ([], (n : Int), (linS L a).1) else parF (n + 1) (linS L a).2 r := by
 have hl := congrArg List.length (cutN_len h)
 simp at hl
 unfold parF
 rw [parR, if_neg (by intro e; rw [e] at h; cases h), h]
 dsimp only
 split
 · rfl
 · exact parR_fuel _ _ _ _ _ (by omega) (by omega)
theorem parF_none {n : Nat} {L : List Su} {s : Bs} (h0 : s ≠ []) (h : cutN s = none) : parF n L s = ([], (n : Int), 21) := by
 unfold parF
 rw [parR, if_neg h0, h]
theorem lin_ok {L : List Su} {s : Bs} (h : (linS L s).1 = 0) : sumErr 1024 (linS L s).2 = 0 := (lin_back (M' := (linS L s).2) (Prod.ext h rfl)).2
def GetL (w : World) (r : List Su × Int × Int) (e : Ending) (w' : World) : Prop := ∃ A n c, e = .returned (.tuple #[.slice A n c, .int .i64 r.2.1, .int .i64 r.2.2]) ∧ SmW w' A n r.1 ∧ Below w.heap.size w w'
end Go.Df.If
namespace Go.Proofs.YtooejoajojanjaaGreatDoor
open Go.RowKit Go.Df Go.Df.If
attribute [local go_sem ↓] Go.wp_at_zero Go.wp_at_succ
attribute [local go_sem] bs_get bs_get2
end Go.Proofs.YtooejoajojanjaaGreatDoor
namespace Go.Df.If
open Go.RowKit Go.Df
def numT (w : Bs) : Value := match numB w with
 | none => .tuple #[.int .i64 0, .bool false]
 | some n => .tuple #[.int .i64 (n : Nat), .bool true]
end Go.Df.If
namespace Go.Proofs.YtooejoajojanjaaGreatDoor
open Go.RowKit Go.Df Go.Df.If
attribute [local go_sem ↓] Go.wp_at_zero Go.wp_at_succ
attribute [local go_sem] bs_get bs_get2
set_option maxRecDepth 100000 in
set_option maxHeartbeats 2000000 in
theorem pnum_any (s : Bs) (w : World) (hn : s.length ≤ 9223372036854775807) :
   Calls Tryz.prog 117 #[.string ⟨s.toArray⟩] w fun e w' => e = .returned (numT s) ∧ Below w.heap.size w w' := by
 obtain ⟨ln, hln⟩ : ∃ ln, s.length = ln := ⟨_, rfl⟩
 have HLN := Lib.hid hln
 by_cases h0 : ln = 0
 · have hE : Hid (numT s = .tuple #[.int .i64 0, .bool false]) := by
     show _ = _
     obtain rfl : s = [] := List.eq_nil_of_length_eq_zero (hln.trans h0)
     rfl
   obtain rfl : s = [] := List.eq_nil_of_length_eq_zero (hln.trans h0)
   clear HLN hln h0 hn
   go_enter Tryz.func117, Tryz.ntmps117
   go_wp2_with fail
   go_ret2
   exact ⟨by rw [hE.out]; rfl, Kept.toBelow (Kept.refl _ _)⟩
 have g7 : s.isEmpty = false := by
   cases s with
   | nil => exact absurd hln.symm h0
   | cons => rfl
 by_cases h9 : 9 < ln
 · have hE : Hid (numT s = .tuple #[.int .i64 0, .bool false]) := by
     show _ = _
     unfold numT numB
     rw [if_pos (.inr (.inl (by omega)))]
   have g0 : ¬ s.length = 0 := by omega
   have g1 : decide ((9 : Int) < (s.length : Int)) = true := by simp; omega
   clear HLN hln h0 h9 hn
   go_enter Tryz.func117, Tryz.ntmps117
   go_wp2_with fail
   go_ret2
   exact ⟨by rw [hE.out]; rfl, Kept.toBelow (Kept.refl _ _)⟩
 have g0 : ((ln : Int) == 0) = false := by simp; omega
 have g1 : decide ((9 : Int) < (ln : Int)) = false := by simp; omega
 have g8 : 0 < ln := by omega
 obtain ⟨c0, hc0⟩ : ∃ c0, byt s 0 = c0 := ⟨_, rfl⟩
 by_cases hz : 1 < ln ∧ c0.toNat = 48
 · have g2 : decide ((1 : Int) < (ln : Int)) = true := by simp; omega
   have g3 : c0.toNat = 48 := hz.2
   have hq : s.head? = some 48 := by
     cases s with
     | nil => exact absurd hln.symm h0
     | cons a r =>
       have e : a = c0 := hc0
       rw [e]
       exact congrArg some (UInt8.toNat_inj.1 g3)
   have hE : Hid (numT s = .tuple #[.int .i64 0, .bool false]) := by
     show _ = _
     unfold numT numB
     rw [if_pos (.inr (.inr (.inl ⟨by have := HLN.out; omega, hq⟩)))]
   have g8 : 0 < ln := by omega
   clear hz h0 h9
   go_enter Tryz.func117, Tryz.ntmps117
   go_wp2_with fail
   go_ret2
   exact ⟨by rw [hE.out]; rfl, Kept.toBelow (Kept.refl _ _)⟩
 have hnz : 1 < ln → ((c0.toNat : Int) == 48) = false := fun h => by
   simp only [beq_eq_false_iff_ne, ne_eq]
   intro h9
   exact hz ⟨h, by omega⟩
 have HE0 : Hid (s.all isD = true → numT s = .tuple #[.int .i64 (valB s : Nat), .bool true]) := Lib.hid (fun h => by
   unfold numT numB
   rw [if_neg]
   rintro (h5 | h5 | ⟨h5, h6⟩ | h5)
   · rw [h5] at hln; exact h0 hln.symm
   · omega
   · refine hz ⟨by omega, ?_⟩
     cases s with
     | nil => cases h6
     | cons a r =>
       have e : a = c0 := hc0
       rw [← e, Option.some.inj h6]
       rfl
   · rw [h5] at h; cases h)
 have HE1 : Hid (s.all isD = false → numT s = .tuple #[.int .i64 0, .bool false]) := Lib.hid (fun h => by
   unfold numT numB
   rw [if_pos (.inr (.inr (.inr h)))])
 by_cases h1 : 1 < ln
 case' pos =>
   have g2 : decide ((1 : Int) < (ln : Int)) = true := by simp; omega
   have g4 := hnz h1
 case' neg =>
   have g2 : decide ((1 : Int) < (ln : Int)) = false := by simp; omega
 all_goals
   clear hz hnz h1
   have kc := fun (w : World) (s : ByteArray) => Lib.run_convert_string_bytes (P := Tryz.prog) w 9 75 5 s Tryz.underlying9 Tryz.underlying75 Tryz.underlying5
   go_enter Tryz.func117, Tryz.ntmps117
   go_wp2_with fail
   refine wp_named (fun V => Kept [] w V ∧ V.heap.size = w.heap.size + 1 ∧ ∀ j, j < s.length → V.cell? ⟨w.heap.size, j, none⟩ = some (.int .u8 (byt s j).toNat)) ⟨⟨rfl, rfl, rfl, by rw [Lib.bytesWorld_size]; omega, fun k hk _ => Lib.bytesWorld_at_old _ _ _ _ hk⟩, Lib.bytesWorld_size _ _ _, fun j hj => by rw [Lib.bytesWorld_cell _ _ _ _ (by simpa [ByteArray.size] using hj)]; rfl⟩ ?_
   rintro V ⟨hkV, hvs, hvc⟩
   have HKV := Lib.hid hkV
   have HVS := Lib.hid hvs
   have HVC := Lib.hid hvc
   clear kc hkV hvs hvc
   go_loopw [4, 27] (fun s3 s4 wr => ∃ i : Nat, i ≤ ln ∧ s4 = .int .i64 i ∧ s3 = .int .i64 (valB (s.take i) : Nat) ∧ Hid ((s.take i).all isD = true) ∧ Hid (Kept [] V wr)) (fun _ s4 _ => ln - (intOf s4).toNat)
   case atStart => exact ⟨0, Nat.zero_le _, rfl, rfl, Lib.hid rfl, Lib.hid (Kept.refl _ _)⟩
   case round =>
   obtain ⟨i, hi, rfl, rfl, HAL, HKR⟩ := hrel
   by_cases hlt : i < ln
   case neg =>
     obtain rfl : i = ln := by omega
     have HTK : Hid (s.take i = s) := Lib.hid (List.take_of_length_le (by rw [HLN.out]; exact Nat.le_refl _))
     have hE : Hid (numT s = .tuple #[.int .i64 (valB (s.take i) : Nat), .bool true]) := Lib.hid (by rw [HTK.out]; exact HE0.out (by have h9 := HAL.out; rw [HTK.out] at h9; exact h9))
     go_wp2_with fail
     go_ret2
     exact ⟨by rw [hE.out]; rfl, (keptTrans HKV.out HKR.out).toBelow⟩
   have hi9 : (i : Int) < (ln : Int) := by omega
   obtain ⟨c, hc⟩ : ∃ c, byt s i = c := ⟨_, rfl⟩
   have HC := Lib.hid hc
   have hwq : w.heap.size < wr.heap.size := by have := HKR.out.size; have := HVS.out; omega
   have kc1 := (HKR.out.cell w.heap.size i (by have := HVS.out; omega) (by simp)).trans (HVC.out i (by rw [HLN.out]; exact hlt))
   rw [hc] at kc1
   have HCD : Hid (isD c = (decide (48 ≤ c.toNat) && decide (c.toNat ≤ 57))) := Lib.hid (by
     unfold isD
     rw [decide_eq_decide.2 (UInt8.le_iff_toNat_le (a := 48) (b := c)), decide_eq_decide.2 (UInt8.le_iff_toNat_le (a := c) (b := 57))]
     rfl)
   by_cases hlo : c.toNat < 48
   case pos =>
     have g5 : decide ((c.toNat : Int) < 48) = true := by simp; omega
     have hE : Hid (numT s = .tuple #[.int .i64 0, .bool false]) := Lib.hid (HE1.out (all_not (i := i) (by rw [HLN.out]; exact hlt) (by
       have h9 := HC.out
       unfold byt at h9
       rw [h9, HCD.out]
       simp
       omega)))
     go_wp2_with fail
     go_ret2
     exact ⟨by rw [hE.out]; rfl, (keptTrans HKV.out HKR.out).toBelow⟩
   by_cases hhi : 57 < c.toNat
   case pos =>
     have g5 : decide ((c.toNat : Int) < 48) = false := by simp; omega
     have g6 : decide ((57 : Int) < (c.toNat : Int)) = true := by simp; omega
     have hE : Hid (numT s = .tuple #[.int .i64 0, .bool false]) := Lib.hid (HE1.out (all_not (i := i) (by rw [HLN.out]; exact hlt) (by
       have h9 := HC.out
       unfold byt at h9
       rw [h9, HCD.out]
       simp
       omega)))
     go_wp2_with fail
     go_ret2
     exact ⟨by rw [hE.out]; rfl, (keptTrans HKV.out HKR.out).toBelow⟩
   have g5 : decide ((c.toNat : Int) < 48) = false := by simp; omega
   have g6 : decide ((57 : Int) < (c.toNat : Int)) = false := by simp; omega
   have HAL2 : Hid ((s.take (i + 1)).all isD = true) := Lib.hid (all_take (by rw [HLN.out]; exact hlt) HAL.out (by
       have h9 := HC.out
       unfold byt at h9
       rw [h9, HCD.out]
       simp
       omega))
   have HVT : Hid (valB (s.take (i + 1)) = 10 * valB (s.take i) + (c.toNat - 48)) := Lib.hid (by
     have h9 := HC.out
     unfold byt at h9
     rw [val_take (by rw [HLN.out]; exact hlt), h9])
   have hv9 : valB (s.take i) < 1000000000 := by
     have h1 := val_lt i (by rw [HLN.out]; omega) HAL.out
     have h2 : (10 : Nat) ^ i ≤ 10 ^ 9 := Nat.pow_le_pow_right (by omega) (by omega)
     omega
   obtain ⟨v, hv⟩ : ∃ v, valB (s.take i) = v := ⟨_, rfl⟩
   rw [hv] at hv9 HVT
   rw [hv]
   go_wp2_with fail
   have HV2 : Hid ((10 * (v : Int) + ((c.toNat : Int) - 48)) = ((valB (s.take (i + 1)) : Nat) : Int)) := Lib.hid (by rw [HVT.out]; omega)
   exact ⟨⟨i + 1, by omega, by go_num, by rw [HV2.out], HAL2, HKR⟩, by simp [intOf]; omega⟩
end Go.Proofs.YtooejoajojanjaaGreatDoor
namespace Go.Proofs.YtooejoajojanjaaGreatDoor
open Go.Shelf
def layIr : Go.Shelf.Ren := ⟨fun | 171 => 42 | 243 => 73 | 246 => 114 | 283 => 158 | 284 => 159 | 285 => 160 | 286 => 161 | 129 => 157 | 317 => 177 | 318 => 178 | 319 => 179 | 320 => 180 | 337 => 192 | 338 => 193 | n => n, fun | 3 => 3 | 9 => 9 | 2 => 2 | 4 => 4 | 171 => 244 | 0 => 0 | 53 => 225 | 37 => 75 | 5 => 5 | 173 => 246 | 212 => 264 | 51 => 242 | 20 => 20 | 213 => 265 | 46 => 186 | 232 => 275 | 233 => 276 | n => n, fun | 17 => 1 | 18 => 3 | 19 => 4 | n => n⟩
theorem layI : Go.Proofs.LaysM.n171 Tryz.prog layIr := {
 mixed := by kernel_rfl
 f129 := Tryz.func157.trans (congrArg some (by kernel_rfl))
 f171 := Tryz.func42.trans (congrArg some (by kernel_rfl))
 f243 := Tryz.func73.trans (congrArg some (by kernel_rfl))
 f246 := Tryz.func114.trans (congrArg some (by kernel_rfl))
 f283 := Tryz.func158.trans (congrArg some (by kernel_rfl))
 f284 := Tryz.func159.trans (congrArg some (by kernel_rfl))
 f285 := Tryz.func160.trans (congrArg some (by kernel_rfl))
 f286 := Tryz.func161.trans (congrArg some (by kernel_rfl))
 f317 := Tryz.func177.trans (congrArg some (by kernel_rfl))
 f318 := Tryz.func178.trans (congrArg some (by kernel_rfl))
 f319 := Tryz.func179.trans (congrArg some (by kernel_rfl))
 f320 := Tryz.func180.trans (congrArg some (by kernel_rfl))
 f337 := Tryz.func192.trans (congrArg some (by kernel_rfl))
 f338 := Tryz.func193.trans (congrArg some (by kernel_rfl))
 t0 := Tryz.underlying0
 a0 := Tryz.isAgg0
 z0 := Tryz.sizeOf0
 v0 := Tryz.zeroValue0
 t2 := Tryz.underlying2
 a2 := Tryz.isAgg2
 z2 := Tryz.sizeOf2
 v2 := Tryz.zeroValue2
 t3 := Tryz.underlying3
 a3 := Tryz.isAgg3
 z3 := Tryz.sizeOf3
 v3 := Tryz.zeroValue3
 t4 := Tryz.underlying4
 a4 := Tryz.isAgg4
 z4 := Tryz.sizeOf4
 v4 := Tryz.zeroValue4
 t5 := Tryz.underlying5
 a5 := Tryz.isAgg5
 z5 := Tryz.sizeOf5
 v5 := Tryz.zeroValue5
 t9 := Tryz.underlying9
 a9 := Tryz.isAgg9
 z9 := Tryz.sizeOf9
 v9 := Tryz.zeroValue9
 t20 := Tryz.underlying20
 a20 := Tryz.isAgg20
 z20 := Tryz.sizeOf20
 v20 := Tryz.zeroValue20
 t37 := Tryz.underlying75
 a37 := Tryz.isAgg75
 z37 := Tryz.sizeOf75
 v37 := Tryz.zeroValue75
 t46 := Tryz.underlying186
 a46 := Tryz.isAgg186
 z46 := Tryz.sizeOf186
 v46 := Tryz.zeroValue186
 t51 := Tryz.underlying242
 a51 := Tryz.isAgg242
 z51 := Tryz.sizeOf242
 v51 := Tryz.zeroValue242
 t53 := Tryz.underlying225
 a53 := Tryz.isAgg225
 z53 := Tryz.sizeOf225
 v53 := Tryz.zeroValue225
 t171 := Tryz.underlying244
 a171 := Tryz.isAgg244
 z171 := Tryz.sizeOf244
 v171 := Tryz.zeroValue244
 t173 := Tryz.underlying246
 a173 := Tryz.isAgg246
 z173 := Tryz.sizeOf246
 v173 := Tryz.zeroValue246
 t212 := Tryz.underlying264
 a212 := Tryz.isAgg264
 z212 := Tryz.sizeOf264
 v212 := Tryz.zeroValue264
 t213 := Tryz.underlying265
 a213 := Tryz.isAgg265
 z213 := Tryz.sizeOf265
 t232 := Tryz.underlying275
 a232 := Tryz.isAgg275
 z232 := Tryz.sizeOf275
 v232 := Tryz.zeroValue275
 t233 := Tryz.underlying276
 a233 := Tryz.isAgg276
 z233 := Tryz.sizeOf276
 v233 := Tryz.zeroValue276
 g17 := by kernel_rfl
 g18 := by kernel_rfl
 g19 := by kernel_rfl
 i0 := by kernel_rfl
 i2 := by kernel_rfl
 i3 := by kernel_rfl
 i4 := by kernel_rfl
 i5 := by kernel_rfl
 i9 := by kernel_rfl
 i20 := by kernel_rfl
 i37 := by kernel_rfl
 i46 := by kernel_rfl
 i51 := by kernel_rfl
 i53 := by kernel_rfl
 i171 := by kernel_rfl
 i173 := by kernel_rfl
 i212 := by kernel_rfl
 i232 := by kernel_rfl
 i233 := by kernel_rfl
 m17 := by kernel_rfl
 m18 := by kernel_rfl
 m19 := by kernel_rfl }
def layWsr : Go.Shelf.Ren := ⟨fun | 166 => 40 | 240 => 72 | 276 => 113 | n => n, fun | 70 => 74 | 9 => 9 | 3 => 3 | 75 => 79 | 0 => 0 | 72 => 77 | 37 => 75 | 4 => 4 | 164 => 131 | 80 => 86 | 5 => 5 | n => n, fun | n => n⟩
theorem layWs : Go.Proofs.Lays.n166 Tryz.prog layWsr := {
 mixed := by kernel_rfl
 f166 := Tryz.func40.trans (congrArg some (by kernel_rfl))
 f240 := Tryz.func72.trans (congrArg some (by kernel_rfl))
 f276 := Tryz.func113.trans (congrArg some (by kernel_rfl))
 t0 := Tryz.underlying0
 a0 := Tryz.isAgg0
 z0 := Tryz.sizeOf0
 v0 := Tryz.zeroValue0
 t3 := Tryz.underlying3
 a3 := Tryz.isAgg3
 z3 := Tryz.sizeOf3
 v3 := Tryz.zeroValue3
 t4 := Tryz.underlying4
 a4 := Tryz.isAgg4
 z4 := Tryz.sizeOf4
 v4 := Tryz.zeroValue4
 t9 := Tryz.underlying9
 a9 := Tryz.isAgg9
 z9 := Tryz.sizeOf9
 v9 := Tryz.zeroValue9
 t20 := Tryz.underlying20
 a20 := Tryz.isAgg20
 z20 := Tryz.sizeOf20
 v20 := Tryz.zeroValue20
 t37 := Tryz.underlying75
 a37 := Tryz.isAgg75
 z37 := Tryz.sizeOf75
 v37 := Tryz.zeroValue75
 t70 := Tryz.underlying74
 a70 := Tryz.isAgg74
 z70 := Tryz.sizeOf74
 v70 := Tryz.zeroValue74
 t72 := Tryz.underlying77
 a72 := Tryz.isAgg77
 z72 := Tryz.sizeOf77
 v72 := Tryz.zeroValue77
 t75 := Tryz.underlying79
 a75 := Tryz.isAgg79
 z75 := Tryz.sizeOf79
 v75 := Tryz.zeroValue79
 t164 := Tryz.underlying131
 a164 := Tryz.isAgg131
 z164 := Tryz.sizeOf131
 v164 := Tryz.zeroValue131 }
def layWbr : Go.Shelf.Ren := ⟨fun | 167 => 41 | 240 => 72 | 276 => 113 | n => n, fun | 70 => 74 | 5 => 5 | 75 => 79 | 0 => 0 | 72 => 77 | 37 => 75 | 4 => 4 | 164 => 131 | 80 => 86 | 9 => 9 | n => n, fun | n => n⟩
theorem layWb : Go.Proofs.Lays.n167 Tryz.prog layWbr := {
 mixed := by kernel_rfl
 f167 := Tryz.func41.trans (congrArg some (by kernel_rfl))
 f240 := Tryz.func72.trans (congrArg some (by kernel_rfl))
 f276 := Tryz.func113.trans (congrArg some (by kernel_rfl))
 t0 := Tryz.underlying0
 a0 := Tryz.isAgg0
 z0 := Tryz.sizeOf0
 v0 := Tryz.zeroValue0
 t4 := Tryz.underlying4
 a4 := Tryz.isAgg4
 z4 := Tryz.sizeOf4
 v4 := Tryz.zeroValue4
 t5 := Tryz.underlying5
 a5 := Tryz.isAgg5
 z5 := Tryz.sizeOf5
 v5 := Tryz.zeroValue5
 t9 := Tryz.underlying9
 a9 := Tryz.isAgg9
 z9 := Tryz.sizeOf9
 v9 := Tryz.zeroValue9
 t20 := Tryz.underlying20
 a20 := Tryz.isAgg20
 z20 := Tryz.sizeOf20
 v20 := Tryz.zeroValue20
 t37 := Tryz.underlying75
 a37 := Tryz.isAgg75
 z37 := Tryz.sizeOf75
 v37 := Tryz.zeroValue75
 t70 := Tryz.underlying74
 a70 := Tryz.isAgg74
 z70 := Tryz.sizeOf74
 v70 := Tryz.zeroValue74
 t72 := Tryz.underlying77
 a72 := Tryz.isAgg77
 z72 := Tryz.sizeOf77
 v72 := Tryz.zeroValue77
 t75 := Tryz.underlying79
 a75 := Tryz.isAgg79
 z75 := Tryz.sizeOf79
 v75 := Tryz.zeroValue79
 t164 := Tryz.underlying131
 a164 := Tryz.isAgg131
 z164 := Tryz.sizeOf131
 v164 := Tryz.zeroValue131 }
def layBsr : Go.Shelf.Ren := ⟨fun | 169 => 44 | n => n, fun | 70 => 74 | 9 => 9 | 0 => 0 | 72 => 77 | 37 => 75 | 127 => 128 | 3 => 3 | 5 => 5 | n => n, fun | n => n⟩
theorem layBs : Go.Proofs.Lays.n169 Tryz.prog layBsr := {
 mixed := by kernel_rfl
 f169 := Tryz.func44.trans (congrArg some (by kernel_rfl))
 t0 := Tryz.underlying0
 a0 := Tryz.isAgg0
 z0 := Tryz.sizeOf0
 v0 := Tryz.zeroValue0
 t3 := Tryz.underlying3
 a3 := Tryz.isAgg3
 z3 := Tryz.sizeOf3
 v3 := Tryz.zeroValue3
 t9 := Tryz.underlying9
 a9 := Tryz.isAgg9
 z9 := Tryz.sizeOf9
 v9 := Tryz.zeroValue9
 t37 := Tryz.underlying75
 a37 := Tryz.isAgg75
 z37 := Tryz.sizeOf75
 v37 := Tryz.zeroValue75
 t70 := Tryz.underlying74
 a70 := Tryz.isAgg74
 z70 := Tryz.sizeOf74
 v70 := Tryz.zeroValue74
 t72 := Tryz.underlying77
 a72 := Tryz.isAgg77
 z72 := Tryz.sizeOf77
 v72 := Tryz.zeroValue77
 t127 := Tryz.underlying128
 a127 := Tryz.isAgg128
 z127 := Tryz.sizeOf128
 v127 := Tryz.zeroValue128 }
def layBlr : Go.Shelf.Ren := ⟨fun | 170 => 43 | n => n, fun | 70 => 74 | 3 => 3 | 0 => 0 | 72 => 77 | 37 => 75 | 5 => 5 | n => n, fun | n => n⟩
theorem layBl : Go.Proofs.Lays.n170 Tryz.prog layBlr := {
 mixed := by kernel_rfl
 f170 := Tryz.func43.trans (congrArg some (by kernel_rfl))
 t0 := Tryz.underlying0
 a0 := Tryz.isAgg0
 z0 := Tryz.sizeOf0
 v0 := Tryz.zeroValue0
 t3 := Tryz.underlying3
 a3 := Tryz.isAgg3
 z3 := Tryz.sizeOf3
 v3 := Tryz.zeroValue3
 t37 := Tryz.underlying75
 a37 := Tryz.isAgg75
 z37 := Tryz.sizeOf75
 v37 := Tryz.zeroValue75
 t70 := Tryz.underlying74
 a70 := Tryz.isAgg74
 z70 := Tryz.sizeOf74
 v70 := Tryz.zeroValue74
 t72 := Tryz.underlying77
 a72 := Tryz.isAgg77
 z72 := Tryz.sizeOf77
 v72 := Tryz.zeroValue77 }
def laySpr : Go.Shelf.Ren := ⟨fun | 146 => 116 | 221 => 163 | 268 => 185 | 138 => 186 | 143 => 187 | 195 => 196 | 197 => 197 | 218 => 198 | 219 => 162 | 260 => 200 | 217 => 181 | 225 => 182 | 224 => 183 | 267 => 184 | 266 => 194 | 314 => 195 | n => n, fun | 9 => 9 | 31 => 143 | 3 => 3 | 4 => 4 | 0 => 0 | 105 => 273 | 21 => 21 | 5 => 5 | 46 => 186 | 119 => 277 | 139 => 280 | 138 => 279 | 146 => 271 | 51 => 242 | n => n, fun | 1 => 2 | 3 => 5 | 4 => 6 | n => n⟩
theorem laySp : Go.Proofs.Lays.n146 Tryz.prog laySpr := {
 mixed := by kernel_rfl
 f138 := Tryz.func186.trans (congrArg some (by kernel_rfl))
 f143 := Tryz.func187.trans (congrArg some (by kernel_rfl))
 f146 := Tryz.func116.trans (congrArg some (by kernel_rfl))
 f195 := Tryz.func196.trans (congrArg some (by kernel_rfl))
 f197 := Tryz.func197.trans (congrArg some (by kernel_rfl))
 f217 := Tryz.func181.trans (congrArg some (by kernel_rfl))
 f218 := Tryz.func198.trans (congrArg some (by kernel_rfl))
 f219 := Tryz.func162.trans (congrArg some (by kernel_rfl))
 f221 := Tryz.func163.trans (congrArg some (by kernel_rfl))
 f224 := Tryz.func183.trans (congrArg some (by kernel_rfl))
 f225 := Tryz.func182.trans (congrArg some (by kernel_rfl))
 f260 := Tryz.func200.trans (congrArg some (by kernel_rfl))
 f266 := Tryz.func194.trans (congrArg some (by kernel_rfl))
 f267 := Tryz.func184.trans (congrArg some (by kernel_rfl))
 f268 := Tryz.func185.trans (congrArg some (by kernel_rfl))
 f314 := Tryz.func195.trans (congrArg some (by kernel_rfl))
 t0 := Tryz.underlying0
 a0 := Tryz.isAgg0
 z0 := Tryz.sizeOf0
 v0 := Tryz.zeroValue0
 t3 := Tryz.underlying3
 a3 := Tryz.isAgg3
 z3 := Tryz.sizeOf3
 v3 := Tryz.zeroValue3
 t4 := Tryz.underlying4
 a4 := Tryz.isAgg4
 z4 := Tryz.sizeOf4
 v4 := Tryz.zeroValue4
 t5 := Tryz.underlying5
 a5 := Tryz.isAgg5
 z5 := Tryz.sizeOf5
 v5 := Tryz.zeroValue5
 t9 := Tryz.underlying9
 a9 := Tryz.isAgg9
 z9 := Tryz.sizeOf9
 v9 := Tryz.zeroValue9
 t21 := Tryz.underlying21
 a21 := Tryz.isAgg21
 z21 := Tryz.sizeOf21
 v21 := Tryz.zeroValue21
 t31 := Tryz.underlying143
 a31 := Tryz.isAgg143
 z31 := Tryz.sizeOf143
 v31 := Tryz.zeroValue143
 t46 := Tryz.underlying186
 a46 := Tryz.isAgg186
 z46 := Tryz.sizeOf186
 v46 := Tryz.zeroValue186
 t51 := Tryz.underlying242
 a51 := Tryz.isAgg242
 z51 := Tryz.sizeOf242
 v51 := Tryz.zeroValue242
 t105 := Tryz.underlying273
 a105 := Tryz.isAgg273
 z105 := Tryz.sizeOf273
 v105 := Tryz.zeroValue273
 t119 := Tryz.underlying277
 a119 := Tryz.isAgg277
 z119 := Tryz.sizeOf277
 t138 := Tryz.underlying279
 a138 := Tryz.isAgg279
 z138 := Tryz.sizeOf279
 v138 := Tryz.zeroValue279
 t139 := Tryz.underlying280
 a139 := Tryz.isAgg280
 z139 := Tryz.sizeOf280
 v139 := Tryz.zeroValue280
 t146 := Tryz.underlying271
 a146 := Tryz.isAgg271
 z146 := Tryz.sizeOf271
 v146 := Tryz.zeroValue271
 g1 := by kernel_rfl
 g3 := by kernel_rfl
 g4 := by kernel_rfl }
def layCur : Go.Shelf.Ren := ⟨fun | 145 => 75 | 220 => 115 | 219 => 162 | 217 => 181 | 225 => 182 | 224 => 183 | 267 => 184 | 266 => 194 | 314 => 195 | n => n, fun | 9 => 9 | 4 => 4 | 59 => 129 | 3 => 3 | 5 => 5 | 46 => 186 | 146 => 271 | 51 => 242 | n => n, fun | 1 => 2 | n => n⟩
theorem layCu : Go.Proofs.Lays.n145 Tryz.prog layCur := {
 mixed := by kernel_rfl
 f145 := Tryz.func75.trans (congrArg some (by kernel_rfl))
 f217 := Tryz.func181.trans (congrArg some (by kernel_rfl))
 f219 := Tryz.func162.trans (congrArg some (by kernel_rfl))
 f220 := Tryz.func115.trans (congrArg some (by kernel_rfl))
 f224 := Tryz.func183.trans (congrArg some (by kernel_rfl))
 f225 := Tryz.func182.trans (congrArg some (by kernel_rfl))
 f266 := Tryz.func194.trans (congrArg some (by kernel_rfl))
 f267 := Tryz.func184.trans (congrArg some (by kernel_rfl))
 f314 := Tryz.func195.trans (congrArg some (by kernel_rfl))
 t3 := Tryz.underlying3
 a3 := Tryz.isAgg3
 z3 := Tryz.sizeOf3
 v3 := Tryz.zeroValue3
 t4 := Tryz.underlying4
 a4 := Tryz.isAgg4
 z4 := Tryz.sizeOf4
 v4 := Tryz.zeroValue4
 t5 := Tryz.underlying5
 a5 := Tryz.isAgg5
 z5 := Tryz.sizeOf5
 v5 := Tryz.zeroValue5
 t9 := Tryz.underlying9
 a9 := Tryz.isAgg9
 z9 := Tryz.sizeOf9
 v9 := Tryz.zeroValue9
 t46 := Tryz.underlying186
 a46 := Tryz.isAgg186
 z46 := Tryz.sizeOf186
 v46 := Tryz.zeroValue186
 t51 := Tryz.underlying242
 a51 := Tryz.isAgg242
 z51 := Tryz.sizeOf242
 v51 := Tryz.zeroValue242
 t59 := Tryz.underlying129
 a59 := Tryz.isAgg129
 z59 := Tryz.sizeOf129
 v59 := Tryz.zeroValue129
 t146 := Tryz.underlying271
 a146 := Tryz.isAgg271
 z146 := Tryz.sizeOf271
 v146 := Tryz.zeroValue271
 g1 := by kernel_rfl }
end Go.Proofs.YtooejoajojanjaaGreatDoor
