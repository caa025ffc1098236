/- Texts: Vu Vg Ko Nb Kr Kt. -/
import Derived.Test.YtooejoajojanjaaGreatDoorXSh22
import Derived.Test.YtooejoajojanjaaGreatDoorXSh14
import Derived.Test.YtooejoajojanjaaGreatDoorXSh07
import Derived.Test.YtooejoajojanjaaGreatDoorXSh05
import Derived.Test.YtooejoajojanjaaGreatDoorXSh12
import Derived.Test.YtooejoajojanjaaGreatDoorXSh20
import Derived.Test.YtooejoajojanjaaGreatDoorXSh21
namespace Go.Df
open Go.RowKit
namespace Sp
open If
theorem kindAt_at {ns : List Nd} {f k : Int} (h : 0 ≤ kindAt ns f k) : (kindAt ns f k).toNat < ns.length ∧ (gn ns (kindAt ns f k).toNat).f = f ∧ (gn ns (kindAt ns f k).toNat).k = k := by
 unfold kindAt at h ⊢
 cases hh : ns.findIdx? (fun n => n.f == f && n.k == k) with
 | none => rw [hh] at h; simp at h
 | some i =>
   obtain ⟨h1, h2, -⟩ := List.findIdx?_eq_some_iff_getElem.1 hh
   have e : gn ns i = ns[i] := by simp [gn, h1]
   simp only [Bool.and_eq_true, beq_iff_eq] at h2
   show (i : Int).toNat < _ ∧ _
   rw [Int.toNat_natCast, e]
   exact ⟨h1, h2.1, h2.2⟩
theorem kindAt_in {ns : List Nd} {m : Int} (h : nodesErr ns m = 0) {x : Nat} (hx : x < ns.length) : 0 ≤ kindAt ns (gn ns x).f 3 ∧ 0 ≤ kindAt ns (gn ns x).f 4 := by
 unfold nodesErr at h
 split at h
 · rename_i h0; exact absurd h h0
 · split at h
   · rename_i h1; exact absurd h h1
   · rename_i h1
     have h2 := fe_zero _ _ (Decidable.byContradiction h1) x (Nat.zero_le _) (by omega)
     unfold wholeErr at h2
     split at h2
     · cases h2
     · rename_i h3; omega
theorem kindAt_is {ns : List Nd} (h : NdOk ns) {i : Nat} (hi : i < ns.length) (hk : (gn ns i).k ≠ 2) : kindAt ns (gn ns i).f (gn ns i).k = i := by
 refine kind_hit (fun j hj => ?_) hi (by simp)
 rw [Bool.eq_false_iff]
 intro h1
 simp only [Bool.and_eq_true, beq_iff_eq] at h1
 have h2 := node_asc h.err i j hj hi
 unfold lessN at h2
 rw [if_neg (by rw [h1.1]; simp), if_neg (by rw [h1.2]; simp)] at h2
 have h3 := of_decide_eq_true h2
 rw [node_i (h.err i hi) hk, node_i (h.err j (by omega)) (by rw [h1.2]; exact hk)] at h3
 omega
def startsI (ns : List Nd) (i : Nat) : List Nat := (List.range i).filter fun j => (gn ns j).k == 1
theorem startsI_succ (ns : List Nd) (i : Nat) : startsI ns (i + 1) = startsI ns i ++ (if (gn ns i).k = 1 then [i] else []) := by
 unfold startsI
 rw [List.range_succ, List.filter_append]
 congr 1
 by_cases h : (gn ns i).k = 1
 · simp [h]
 · simp [h]
theorem startsI_mem {ns : List Nd} {i j : Nat} : j ∈ startsI ns i ↔ j < i ∧ (gn ns j).k = 1 := by simp [startsI]
theorem startsI_len (ns : List Nd) (i : Nat) : (startsI ns i).length ≤ i := by
 unfold startsI
 refine Nat.le_trans (List.length_filter_le _ _) ?_
 simp
theorem startsI_last {ns : List Nd} (h : NdOk ns) {i : Nat} (hi : i < ns.length) (hk : (gn ns i).k ≠ 1) : stOf ns i < i ∧ startsI ns i = startsI ns (stOf ns i) ++ [stOf ns i] := by
 have h1 := h.start hi
 have h2 := stOf_le ns i
 have h3 : stOf ns i < i := by
   rcases Nat.lt_or_ge (stOf ns i) i with h4 | h4
   · exact h4
   · have e : stOf ns i = i := by omega
     rw [e] at h1
     exact absurd h1.2 hk
 refine ⟨h3, ?_⟩
 have key : ∀ m, stOf ns i < m → m ≤ i → startsI ns m = startsI ns (stOf ns i) ++ [stOf ns i] := fun m => by
   induction m with
   | zero => intro h; omega
   | succ m ih =>
     intro h4 h5
     rw [startsI_succ]
     by_cases e : m = stOf ns i
     · rw [e, if_pos h1.2]
     · rw [if_neg (fun h6 => by have := (stOf_hit (i := i) (j := m) (by omega) h6).1; omega), List.append_nil]
       exact ih (by omega) (by omega)
 exact key i h3 (Nat.le_refl _)
end Sp
namespace If
open Sp
noncomputable def sumP (p : Px) (i j : Nat) : Su :=
 ⟨(gn p.ns j).f, if kindAt p.ns (gn p.ns j).f 3 < i then pairX p (kindAt p.ns (gn p.ns j).f 3).toNat else [], if kindAt p.ns (gn p.ns j).f 4 < i then pairX p (kindAt p.ns (gn p.ns j).f 4).toNat else []⟩
noncomputable def prI (p : Px) (i : Nat) : List Su := (startsI p.ns i).map (sumP p i)
noncomputable def sumF (p : Px) (j : Nat) : Su := ⟨(gn p.ns j).f, pairX p (kindAt p.ns (gn p.ns j).f 3).toNat, pairX p (kindAt p.ns (gn p.ns j).f 4).toNat⟩
noncomputable def fulI (p : Px) (i : Nat) : List Su := (startsI p.ns i).map (sumF p)
theorem fulI_len (p : Px) (i : Nat) : (fulI p i).length ≤ i := by
 unfold fulI
 rw [List.length_map]
 exact startsI_len _ _
theorem prI_len (p : Px) (i : Nat) : (prI p i).length ≤ i := by
 unfold prI
 rw [List.length_map]
 exact startsI_len _ _
theorem sumP_same {p : Px} {i j : Nat} (h3 : kindAt p.ns (gn p.ns j).f 3 ≠ i) (h4 : kindAt p.ns (gn p.ns j).f 4 ≠ i) : sumP p (i + 1) j = sumP p i j := by
 unfold sumP
 have e3 : (kindAt p.ns (gn p.ns j).f 3 < ((i + 1 : Nat) : Int)) ↔ kindAt p.ns (gn p.ns j).f 3 < (i : Int) := by omega
 have e4 : (kindAt p.ns (gn p.ns j).f 4 < ((i + 1 : Nat) : Int)) ↔ kindAt p.ns (gn p.ns j).f 4 < (i : Int) := by omega
 simp only [e3, e4]
theorem kind_node {p : Px} {i j : Nat} {k : Int} (hk : kindAt p.ns (gn p.ns j).f k = i) : i < p.ns.length ∧ (gn p.ns i).f = (gn p.ns j).f ∧ (gn p.ns i).k = k := by
 have h1 := kindAt_at (ns := p.ns) (f := (gn p.ns j).f) (k := k) (by omega)
 have e : (kindAt p.ns (gn p.ns j).f k).toNat = i := by omega
 rw [e] at h1
 exact h1
theorem prI_else {p : Px} {i : Nat} (h3 : (gn p.ns i).k ≠ 3) (h4 : (gn p.ns i).k ≠ 4) (h1 : (gn p.ns i).k ≠ 1) : prI p (i + 1) = prI p i := by
 unfold prI
 rw [startsI_succ, if_neg h1, List.append_nil]
 refine List.map_congr_left fun j hj => sumP_same (fun h => ?_) (fun h => ?_)
 · exact h3 (kind_node h).2.2
 · exact h4 (kind_node h).2.2
section
variable {p : Px} (ho : OkX p)
include ho
theorem prI_start {i : Nat} (hi : i < p.ns.length) (hk : (gn p.ns i).k = 1) : prI p (i + 1) = prI p i ++ [⟨(gn p.ns i).f, [], []⟩] := by
 unfold prI
 rw [startsI_succ, if_pos hk, List.map_append]
 congr 1
 · refine List.map_congr_left fun j hj => sumP_same (fun h => ?_) (fun h => ?_)
   · have := (kind_node h).2.2; omega
   · have := (kind_node h).2.2; omega
 · show [sumP p (i + 1) i] = _
   have hw := kindAt_in (sup_parts ho.ok.sup).2.2.1 hi
   have hle : ∀ k : Int, k ≠ 1 → 0 ≤ kindAt p.ns (gn p.ns i).f k → ¬ kindAt p.ns (gn p.ns i).f k < ((i + 1 : Nat) : Int) := fun k h1 h2 h3 => by
     obtain ⟨h4, h5, h6⟩ := kindAt_at h2
     have h7 := ho.ok.nd.ahead hi h4 h5.symm hk
     have h8 : (kindAt p.ns (gn p.ns i).f k).toNat = i := by omega
     rw [h8] at h6
     omega
   unfold sumP
   rw [if_neg (hle 3 (by decide) hw.1), if_neg (hle 4 (by decide) hw.2)]
def kOf : Bool → Int
 | false => 3
 | true => 4
theorem prI_end {i : Nat} (hi : i < p.ns.length) (b : Bool) (hk : (gn p.ns i).k = kOf b) : 0 < (prI p i).length ∧ prI p (i + 1) = (prI p i).dropLast ++ [updB (gS (prI p i) ((prI p i).length - 1)) (pairX p i) b] := by
 have hk1 : (gn p.ns i).k ≠ 1 := by rw [hk]; cases b <;> decide
 have hk2 : (gn p.ns i).k ≠ 2 := by rw [hk]; cases b <;> decide
 obtain ⟨h1, h2⟩ := startsI_last ho.ok.nd hi hk1
 have h3 := ho.ok.nd.start hi
 have e0 : prI p i = (startsI p.ns (stOf p.ns i)).map (sumP p i) ++ [sumP p i (stOf p.ns i)] := by
   unfold prI
   rw [h2, List.map_append]
   rfl
 have e1 : prI p (i + 1) = (startsI p.ns (stOf p.ns i)).map (sumP p (i + 1)) ++ [sumP p (i + 1) (stOf p.ns i)] := by
   unfold prI
   rw [startsI_succ, if_neg hk1, List.append_nil, h2, List.map_append]
   rfl
 have hmap : (startsI p.ns (stOf p.ns i)).map (sumP p (i + 1)) = (startsI p.ns (stOf p.ns i)).map (sumP p i) := by
   refine List.map_congr_left fun j hj => ?_
   obtain ⟨h4, h5⟩ := startsI_mem.1 hj
   have hne : ∀ k : Int, kindAt p.ns (gn p.ns j).f k ≠ i := fun k h => by
     have h6 := (kind_node h).2.1
     have h7 := ho.ok.nd.ahead (j := j) (x := stOf p.ns i) (by omega) (by omega) (by rw [h3.1, h6]) h5
     have h8 := ho.ok.nd.ahead (j := stOf p.ns i) (x := j) (by omega) (by omega) (by rw [h3.1, h6]) h3.2
     omega
   exact sumP_same (hne 3) (hne 4)
 have hkk := kindAt_is ho.ok.nd hi hk2
 have hw := kindAt_in (sup_parts ho.ok.sup).2.2.1 hi
 have hlast : sumP p (i + 1) (stOf p.ns i) = updB (sumP p i (stOf p.ns i)) (pairX p i) b := by
   unfold sumP
   rw [h3.1]
   cases b with
   | false =>
     have e3 : kindAt p.ns (gn p.ns i).f 3 = i := by rw [show (3 : Int) = (gn p.ns i).k by rw [hk]; rfl]; exact hkk
     have e4 : kindAt p.ns (gn p.ns i).f 4 ≠ i := fun h => by have := (kind_node h).2.2; rw [hk] at this; exact absurd this (by decide)
     have e5 : (kindAt p.ns (gn p.ns i).f 4 < ((i + 1 : Nat) : Int)) ↔ kindAt p.ns (gn p.ns i).f 4 < (i : Int) := by omega
     simp only [updB, e5]
     rw [if_pos (by omega), e3, Int.toNat_natCast]
   | true =>
     have e3 : kindAt p.ns (gn p.ns i).f 4 = i := by rw [show (4 : Int) = (gn p.ns i).k by rw [hk]; rfl]; exact hkk
     have e4 : kindAt p.ns (gn p.ns i).f 3 ≠ i := fun h => by have := (kind_node h).2.2; rw [hk] at this; exact absurd this (by decide)
     have e5 : (kindAt p.ns (gn p.ns i).f 3 < ((i + 1 : Nat) : Int)) ↔ kindAt p.ns (gn p.ns i).f 3 < (i : Int) := by omega
     simp only [updB, e5]
     rw [if_pos (show kindAt p.ns (gn p.ns i).f 4 < ((i + 1 : Nat) : Int) by omega), e3, Int.toNat_natCast]
 have hg : gS (prI p i) ((prI p i).length - 1) = sumP p i (stOf p.ns i) := by
   rw [e0]
   unfold gS
   rw [List.getD_eq_getElem?_getD, List.length_append, List.length_singleton, Nat.add_sub_cancel, List.getElem?_append_right (Nat.le_refl _), Nat.sub_self]
   rfl
 refine ⟨by rw [e0]; simp, ?_⟩
 rw [hg, e1, hmap, hlast]
 congr 1
 rw [e0, List.dropLast_concat]
theorem prI_all : prI p p.ns.length = fulI p p.ns.length := by
 unfold prI fulI
 refine List.map_congr_left fun j hj => ?_
 obtain ⟨h1, -⟩ := startsI_mem.1 hj
 have hw := kindAt_in (sup_parts ho.ok.sup).2.2.1 h1
 have a3 := kindAt_at hw.1
 have a4 := kindAt_at hw.2
 unfold sumP sumF
 rw [if_pos (by omega), if_pos (by omega)]
theorem fulI_pairs {i : Nat} : ∀ u ∈ fulI p i, u.x.length ≤ p.F.toNat * p.F.toNat ∧ u.y.length ≤ p.F.toNat * p.F.toNat := fun u hu => by
 obtain ⟨j, -, rfl⟩ := List.mem_map.1 hu
 exact ⟨pairX_len ho rfl _, pairX_len ho rfl _⟩
end
end If
end Go.Df
namespace Go.Df
open Go.RowKit
namespace If
open Sp
def iniI (ns : List Nd) (F i : Nat) : List (Nat × Nat) := (startsI ns i).flatMap fun n => (List.range F).map fun a => (n, a)
theorem iniI_yes {ns : List Nd} {F i : Nat} (h : (gn ns i).k = 1) : iniI ns F (i + 1) = iniI ns F i ++ (List.range F).map fun a => (i, a) := by
 unfold iniI
 rw [startsI_succ, if_pos h, List.flatMap_append]
 simp
theorem iniI_no {ns : List Nd} {F i : Nat} (h : (gn ns i).k ≠ 1) : iniI ns F (i + 1) = iniI ns F i := by
 unfold iniI
 rw [startsI_succ, if_neg h, List.append_nil]
theorem iniI_mem {ns : List Nd} {F i : Nat} {x : Nat × Nat} : x ∈ iniI ns F i ↔ x.1 < i ∧ (gn ns x.1).k = 1 ∧ x.2 < F := by
 unfold iniI
 rw [List.mem_flatMap]
 constructor
 · rintro ⟨n, hn, h⟩
   obtain ⟨a, ha, rfl⟩ := List.mem_map.1 h
   exact ⟨(startsI_mem.1 hn).1, (startsI_mem.1 hn).2, List.mem_range.1 ha⟩
 · rintro ⟨h1, h2, h3⟩
   exact ⟨x.1, startsI_mem.2 ⟨h1, h2⟩, List.mem_map.2 ⟨x.2, List.mem_range.2 h3, rfl⟩⟩
theorem initS_snoc (l : List (Nat × Nat)) (x : Nat × Nat) (s : St) : initS (l ++ [x]) s = (initS l s).add x.1 x.2 x.2 := by
 unfold initS
 rw [List.foldl_append]
 rfl
theorem gS_mem7 {L : List Su} {i : Nat} (h : i < L.length) : gS L i ∈ L := by
 have e : gS L i = L[i] := by simp [gS, h]
 rw [e]
 exact List.getElem_mem h
theorem noSt_wf (p : Pb) : Wf p noSt := ⟨by simp [noSt], by simp [noSt], by simp [noSt], by simp [noSt], by simp [noSt], by simp [noSt]⟩
theorem initS_wf {p : Px} (ho : OkX p) {l : List (Nat × Nat)} (hl : ∀ x ∈ l, x ∈ p.ini) : Wf p.toPb (initS l noSt) :=
 (initS_inv ho l hl (noSt_wf _) ⟨by simp [noSt], by simp [noSt]⟩ (by simp [noSt]) (by simp [noSt])).1
end If
end Go.Df
namespace Go.Proofs.YtooejoajojanjaaGreatDoor
open Go.RowKit Go.Df Go.Df.If
def GetFul (w : World) (L : List Su) (er : Int) (e : Ending) (w' : World) : Prop := ∃ A n c, e = .returned (.tuple #[.slice A n c, .int .i64 er]) ∧ n ≤ 9223372036854775807 ∧ SmW w' A n L ∧ Below w.heap.size w w'
end Go.Proofs.YtooejoajojanjaaGreatDoor
namespace Go.Df
open Go.RowKit
theorem new2T (w : World) (b : Nat) (u v : Value) (t : TypeId) (hb : b = w.heap.size) : Rd (w.alloc (.cells #[u, v] t)) 2 (some ⟨b, 0, none⟩) 1 [u, v] := by
 subst hb
 refine ⟨rfl, fun _ => ⟨_, _, rfl, by simp, fun j _ => ?_⟩⟩
 rw [World.cell?_alloc_new, Nat.zero_add]; simp
namespace If
def prcells (l : List Pr) : List Value := l.flatMap fun x => [.int .i64 x.i, .int .i64 x.o]
theorem prcells_snoc (l : List Pr) (x : Pr) : prcells l ++ [.int .i64 x.i, .int .i64 x.o] = prcells (l ++ [x]) := by simp [prcells]
theorem prcells_at : ∀ (l : List Pr) {i : Nat} (_ : i < l.length), (prcells l)[i * 2]? = some (.int .i64 (gp l i).i) ∧ (prcells l)[i * 2 + 1]? = some (.int .i64 (gp l i).o)
 | x :: l, 0, _ => by simp [prcells, gp]
 | x :: l, i + 1, h => by
   have h1 := prcells_at l (i := i) (by simpa using h)
   have e : prcells (x :: l) = [.int .i64 x.i, .int .i64 x.o] ++ prcells l := rfl
   have e2 : gp (x :: l) (i + 1) = gp l i := by simp [gp]
   rw [e, e2]
   refine ⟨?_, ?_⟩
   · rw [List.getElem?_append_right (by simp; omega), show (i + 1) * 2 - [Value.int .i64 x.i, .int .i64 x.o].length = i * 2 by simp; omega]; exact h1.1
   · rw [List.getElem?_append_right (by simp; omega), show (i + 1) * 2 + 1 - [Value.int .i64 x.i, .int .i64 x.o].length = i * 2 + 1 by simp; omega]; exact h1.2
theorem Prs.own {w : World} {base : Nat} {e : TypeId} {A : Option Addr} {n c : Nat} {l : List Pr} (h : w.ownsRow base e 2 (.slice A n c) n (prcells l)) (hl : l.length = n) : Prs w A n l ∧ n ≤ c := by
 by_cases h0 : 0 < n
 · obtain ⟨g, c', hv, hb, hg, hc, -, hcell, -⟩ := own_cellsT h h0
   injection hv with e1 e2 e3
   subst e1
   subst e3
   exact ⟨⟨hl, fun _ => ⟨g, 0, rfl, hg, fun i hi => by
     obtain ⟨h1, h2⟩ := prcells_at l (i := i) (by omega)
     rw [Nat.zero_add, hcell _ (by omega), hcell _ (by omega)]
     exact ⟨h1, h2⟩⟩⟩, hc⟩
 · exact ⟨⟨hl, fun h => absurd h h0⟩, by omega⟩
end If
end Go.Df
namespace Go.Proofs.YtooejoajojanjaaGreatDoor
open Go.RowKit Go.Df Go.Df.If
theorem pairi_info : (Tryz.prog.info? 72).map (fun i => (i.zero, i.size, i.bytes)) = some (some (.agg #[.int .i64 0, .int .i64 0]), 2, 16) := by kernel_rfl
end Go.Proofs.YtooejoajojanjaaGreatDoor
namespace Go.Df
open Go.RowKit
namespace If
open Sp
theorem set_apartN {w : World} {b o b' o' : Nat} {u u' v : Value} (h : w.cell? ⟨b, o, none⟩ = some u) (h' : w.cell? ⟨b', o', none⟩ = some u') (hn : u ≠ u') : (w.setCell ⟨b, o, none⟩ v).cell? ⟨b', o', none⟩ = some u' := by
 rw [set_other, h']
 by_cases e : b = b'
 · by_cases e2 : o = o'
   · subst e e2
     rw [h] at h'
     exact absurd (Option.some.inj h') hn
   · exact .inr e2
 · exact .inl e
theorem prs_apart {w : World} {b o : Nat} {u v : Value} {A : Option Addr} {n : Nat} {l : List Pr} (h : w.cell? ⟨b, o, none⟩ = some u) (hn : ∀ x, u ≠ .int .i64 x) (hi : Prs w A n l) : Prs (w.setCell ⟨b, o, none⟩ v) A n l :=
 ⟨hi.1, fun h0 => by
   obtain ⟨b', o', e, hl, hc⟩ := hi.2 h0
   exact ⟨b', o', e, by simpa [World.setCell] using hl, fun i hi2 => ⟨set_apartN h (hc i hi2).1 (hn _), set_apartN h (hc i hi2).2 (hn _)⟩⟩⟩
structure PrM (w : World) (g N i : Nat) (f : Nat → List Pr) : Prop where
 l : g < w.heap.size
 c : ∀ x, x < N → ∃ A m c, w.cell? ⟨g, x, none⟩ = some (.slice A m c) ∧ m ≤ c ∧ Prs w A m (if x < i then f x else [])
 fr : ∀ x, w.frozen? ⟨g, x, none⟩ = false
section
variable {w w1 : World} {g N i : Nat} {f : Nat → List Pr}
theorem PrM.kept (h : PrM w g N i f) (hk : Kept [] w w1) : PrM w1 g N i f :=
 ⟨Nat.lt_of_lt_of_le h.l hk.size, fun x hx => by
   obtain ⟨A, m, c, h1, h2, h3⟩ := h.c x hx
   exact ⟨A, m, c, (hk.cell g x h.l (by simp)).trans h1, h2, h3.later hk.toBelow⟩, fun x => (hk.frozen g x h.l (by simp)).trans (h.fr x)⟩
theorem PrM.set (h : PrM w g N i f) (hi : i < N) {A : Option Addr} {m c : Nat} (hA : Prs w A m (f i)) (hm : m ≤ c) : PrM (w.setCell ⟨g, i, none⟩ (.slice A m c)) g N (i + 1) f := by
 obtain ⟨A0, m0, c0, h0, -, -⟩ := h.c i hi
 refine ⟨by simpa [World.setCell] using h.l, fun x hx => ?_, fun x => by simpa using h.fr x⟩
 by_cases e : x = i
 · subst e
   exact ⟨A, m, c, set_same h0, hm, by rw [if_pos (by omega)]; exact prs_apart h0 (by simp) hA⟩
 · obtain ⟨Ax, mx, cx, h1, h2, h3⟩ := h.c x hx
   refine ⟨Ax, mx, cx, by rw [set_other (.inr (fun e2 => e e2.symm))]; exact h1, h2, ?_⟩
   have e9 : (if x < i + 1 then f x else []) = (if x < i then f x else []) := by
     by_cases e2 : x < i
     · rw [if_pos e2, if_pos (by omega)]
     · rw [if_neg e2, if_neg (by omega)]
   rw [e9]
   exact prs_apart h0 (by simp) h3
theorem PrM.start {MR : Array Value} {t : TypeId} (h : w.heap[g]? = some (.cells MR t (0, 0))) (hM : ∀ i, i < N → MR[i]? = some (.slice none 0 0)) : PrM w g N 0 f :=
 ⟨(Array.getElem?_eq_some_iff.1 h).1, fun x hx => ⟨none, 0, 0, by simp [World.cell?, h, hM x hx], Nat.le_refl _, by rw [if_neg (by omega)]; exact ⟨rfl, fun h0 => absurd h0 (by omega)⟩⟩, fun x => by simp [World.frozen?, h]⟩
end
end If
end Go.Df
namespace Go.Proofs.YtooejoajojanjaaGreatDoor
open Go.RowKit Go.Df Go.Df.If
attribute [local go_sem ↓] Go.wp_at_zero Go.wp_at_succ
variable {p : Pb} {N F mN : Nat} {A1 A2 A3 A4 : Option Addr} {n2 n3 n4 : Nat} {X : List Nat} {bs : Nat → Nat} {r : Nat} {w0 w : World} {T : Nat → Nat → Nat → Bool}
set_option maxRecDepth 100000 in
set_option maxHeartbeats 4000000 in
theorem rdoes_is (c1 c2 c3 c4 c b x d : Nat) (v : Bool) (w : World) (hT : TabM N F X bs r w T) (hN : N ≤ 8192) (hF : F ≤ 1024) (hx : x < N) (hb : b < F) (hd : d < F) (hv : T x b d = v) :
   Calls Tryz.prog 139 #[.agg #[.slice A1 N c1, .slice A2 n2 c2, .int .i64 mN, .int .i64 (F : Nat), .slice A3 n3 c3, .slice A4 n4 c4, .int .i64 (F : Nat), .slice (some ⟨r, 0, none⟩) N c, .slice none 0 0, .bool false], .int .i64 b, .int .i64 x, .int .i64 d] w fun e w' => e = .returned (.bool v) ∧ Below w.heap.size w w' := by
 have HT := Lib.hid hT
 have HV := Lib.hid hv
 clear hT hv
 go_enter Tryz.func139, Tryz.ntmps139
 go_upto_region 1 with fail
 refine wp_named (fun W => ∃ b0, w.heap.size = b0 ∧ Blk W b0 [.slice A1 N c1, .slice A2 n2 c2, .int .i64 mN, .int .i64 (F : Nat), .slice A3 n3 c3, .slice A4 n4 c4, .int .i64 (F : Nat), .slice (some ⟨r, 0, none⟩) N c, .slice none 0 0, .bool false] ∧ Below w.heap.size w W) ⟨_, rfl, ?_, ?_⟩ ?_
 · exact kbn
 · go_grown
 rintro W ⟨b0, e0, B0, hB⟩
 rw [e0]
 have G0 : w.heap.size ≤ b0 := by omega
 clear e0
 have ⟨L0, C0, F0⟩ := B0
 have TW := Lib.hid (HT.out.later hB)
 go_wp2_with (go_at_call 64; refine (rtHas_is c b x d v _ TW.out hN hF hx hb hd HV.out).mono ?_; rintro e w3 ⟨rfl, hb3⟩)
 go_ret
 exact ⟨rfl, hB.trans (hb3.mono hB.size)⟩
set_option maxRecDepth 100000 in
set_option maxHeartbeats 8000000 in
theorem rreturned30_any (k c1 c2 c3 c4 c : Nat) (w : World) (hP : PbW p N F mN A1 A2 A3 A4 n2 n3 n4 w0) (hb0 : Below w0.heap.size w0 w) (hX : ∀ x ∈ X, w0.heap.size ≤ x) (hT : TabM N F X bs r w T) (hk : k < n2) (hN1 : 0 < N) :
   Calls Tryz.prog 101 #[.agg #[.slice A1 N c1, .slice A2 n2 c2, .int .i64 mN, .int .i64 (F : Nat), .slice A3 n3 c3, .slice A4 n4 c4, .int .i64 (F : Nat), .slice (some ⟨r, 0, none⟩) N c, .slice none 0 0, .bool false], .int .i64 k] w (Turns N F X bs r w (returnedT p k n2 (T, false))) := by
 obtain rfl : n2 = n3 := hP.n32.symm
 obtain ⟨be, oe, rfl, hle, hce⟩ := hP.ed.2 (by omega)
 obtain ⟨bnn, on, rfl, hln, hcn⟩ := hP.nd.2 hN1
 obtain ⟨bf, of_, rfl, hlf, hcf⟩ := hP.fl.2 (by omega)
 have HCE := Lib.hid hce
 have HCN := Lib.hid hcn
 have HCF := Lib.hid hcf
 have HP := Lib.hid hP
 have HX := Lib.hid hX
 have hN8 := hP.N8
 have hF8 := hP.F8
 have hE8 : n2 ≤ 32768 := by have := (sup_parts hP.ok.sup).2.1; have := hP.ed.1; omega
 have HES := Lib.hid hP.ed.1
 have HXlt := Lib.hid hT.lt
 have HT := Lib.hid hT
 have HFN := Lib.hid hP.Fn
 have hszw := hb0.size
 obtain ⟨ra, rb, rk, rc, en, hra, hrb, -, -⟩ := hP.edge hk
 have HEN := Lib.hid en
 clear hP hX hT hce hcn hcf en
 go_enter Tryz.func101, Tryz.ntmps101
 go_upto_region 1 with fail
 refine wp_named (fun W => ∃ b0, w.heap.size = b0 ∧ Blk W b0 [.slice (some ⟨bnn, on, none⟩) N c1, .slice (some ⟨be, oe, none⟩) n2 c2, .int .i64 mN, .int .i64 (F : Nat), .slice (some ⟨bf, of_, none⟩) n2 c3, .slice A4 n4 c4, .int .i64 (F : Nat), .slice (some ⟨r, 0, none⟩) N c, .slice none 0 0, .bool false] ∧ Below w.heap.size w W) ⟨_, rfl, ?_, ?_⟩ ?_
 · exact kbn
 · go_grown
 rintro W ⟨b0, e0, B0, hB⟩
 rw [e0]
 have G0 : w.heap.size ≤ b0 := by omega
 clear e0
 have ⟨L0, C0, F0⟩ := B0
 have hX0 : b0 ∉ X := fun h => by have := HXlt.out _ h; omega
 have HXW : Hid (∀ y, W.heap.size ≤ y → y ∉ X) := fun y hy h => by have := HXlt.out _ h; have := hB.size; omega
 have HBW : Hid (Below w0.heap.size w0 W) := Lib.hid (hb0.trans (hB.mono hszw))
 have hleW : be < W.heap.size := Nat.lt_of_lt_of_le hle HBW.out.size
 have e1 := (HBW.out.cell (p := ⟨be, _, none⟩) hle).trans (HCE.out k hk).1
 have e2 := (HBW.out.cell (p := ⟨be, _, none⟩) hle).trans (HCE.out k hk).2.1
 have e3 := (HBW.out.cell (p := ⟨be, _, none⟩) hle).trans (HCE.out k hk).2.2.1
 have e4 := (HBW.out.cell (p := ⟨be, _, none⟩) hle).trans (HCE.out k hk).2.2.2
 rw [HEN.out] at e1 e2 e3 e4
 have hk9 : (k : Int) < (n2 : Int) := by omega
 go_upto_region 4 with fail
 refine wp_named (fun V => ∃ bp br, W.heap.size = bp ∧ W.heap.size + 1 = br ∧ Blk V bp [.slice (some ⟨bnn, on, none⟩) N c1, .slice (some ⟨be, oe, none⟩) n2 c2, .int .i64 mN, .int .i64 (F : Nat), .slice (some ⟨bf, of_, none⟩) n2 c3, .slice A4 n4 c4] ∧ Blk V br [.int .i64 ra, .int .i64 rb, .int .i64 rk, .int .i64 rc] ∧ Kept [] W V) ⟨_, _, rfl, rfl, (Blk.new _ _ _ _ rfl).alloc _, Blk.new _ _ _ _ (by simp), ((Kept.refl _ _).alloc _).alloc _⟩ ?_
 rintro V ⟨bp, br, ep, er, Bp, Br, hkV⟩
 rw [er, ep]
 have hXp : bp ∉ X := HXW.out bp (by omega)
 have hXr : br ∉ X := HXW.out br (by omega)
 have hszV := hkV.size
 have HXV : Hid (∀ y, V.heap.size ≤ y → y ∉ X) := Lib.hid (fun y hy => HXW.out y (by omega))
 have HBV : Hid (Below w0.heap.size w0 V) := Lib.hid (HBW.out.trans (hkV.toBelow.mono HBW.out.size))
 have HwV : Hid (Kept [] w V) := Lib.hid (((Kept.refl [] w).call hB).next hkV (by simp))
 have TV := Lib.hid (HT.out.kept0 HwV.out)
 have B0V := hkV.blk (by simp) B0
 have ⟨L0V, C0V, F0V⟩ := B0V
 have BpV := Bp
 have BrV := Br
 have ⟨LpV, CpV, FpV⟩ := BpV
 have ⟨LrV, CrV, FrV⟩ := BrV
 obtain ⟨Ak, nk, ck9, fk1, -, fk3⟩ := HCF.out k hk
 have HK1 := Lib.hid fk1
 have HKP := Lib.hid fk3
 have HKL := Lib.hid fk3.1
 have hnk : nk ≤ 8192 := by have := (HP.out.ok.fl k (by rw [HP.out.fl.1]; exact hk)).1; have := fk3.1; omega
 clear C0 F0 e1 e2 e3 e4 ep er fk1 fk3 Bp Br
 go_wp2_with fail
 go_loopw [6, 8] (fun s6 s8 wr => ∃ (i : Nat) (m : Bool) (Ti : Nat → Nat → Nat → Bool), i ≤ n2 ∧ s8 = .int .i64 i ∧ s6 = .bool m ∧ Kept X V wr ∧ Hid (TabM N F X bs r wr Ti) ∧ Hid (returnedT p k i (T, false) = (Ti, m))) (fun _ s8 _ => n2 - (intOf s8).toNat)
 case atStart => exact ⟨0, false, T, Nat.zero_le _, rfl, rfl, Kept.refl _ _, TV, Lib.hid rfl⟩
 case round =>
 clear C0V F0V CpV FpV CrV FrV
 obtain ⟨i, m0, Ti, hi, rfl, rfl, hkr, TR, HSI⟩ := hrel
 have B0W := hkr.blk hX0 B0V
 have ⟨L0W, C0W, F0W⟩ := B0W
 have BpW := hkr.blk hXp BpV
 have ⟨LpW, CpW, FpW⟩ := BpW
 have BrW := hkr.blk hXr BrV
 have ⟨LrW, CrW, FrW⟩ := BrW
 have hBr : Below w0.heap.size w0 wr := Kept.below HBV.out HBV.out.size HX.out hkr
 have hler : be < wr.heap.size := Nat.lt_of_lt_of_le hle hBr.size
 by_cases hlt : i < n2
 case neg =>
   obtain rfl : i = n2 := by omega
   go_wp2_with fail
   go_ret
   refine ⟨by rw [HSI.out]; rfl, (keptWide HwV.out (by simp)).next hkr (fun y hy => .inl hy), ?_⟩
   rw [HSI.out]
   exact TR.out
 have hi9 : (i : Int) < (n2 : Int) := by omega
 obtain ⟨ca, cb, ck, cc, eni, hca, hcb, -, -⟩ := HP.out.edge hlt
 have HEI := Lib.hid eni
 have e1 := (hBr.cell (p := ⟨be, _, none⟩) hle).trans (HCE.out i hlt).1
 have e2 := (hBr.cell (p := ⟨be, _, none⟩) hle).trans (HCE.out i hlt).2.1
 have e3 := (hBr.cell (p := ⟨be, _, none⟩) hle).trans (HCE.out i hlt).2.2.1
 have e4 := (hBr.cell (p := ⟨be, _, none⟩) hle).trans (HCE.out i hlt).2.2.2
 rw [eni] at e1 e2 e3 e4
 clear eni
 go_upto_region 8 with fail
 refine wp_named (fun U => ∃ g, wr.heap.size = g ∧ Blk U g [.int .i64 ca, .int .i64 cb, .int .i64 ck, .int .i64 cc] ∧ Kept [] wr U) ⟨_, rfl, Blk.new _ _ _ _ rfl, (Kept.refl _ _).alloc _⟩ ?_
 rintro U ⟨bc, ec, Bc, hkU⟩
 rw [ec]
 have hXc : bc ∉ X := HXV.out bc (by have := hkr.size; omega)
 have BcU := Bc
 have ⟨LcU, CcU, FcU⟩ := BcU
 clear C0W F0W CpW FpW CrW FrW e1 e2 e3 e4 ec Bc
 have B0U := hkU.blk (by simp) B0W
 have ⟨L0U, C0U, F0U⟩ := B0U
 have BpU := hkU.blk (by simp) BpW
 have ⟨LpU, CpU, FpU⟩ := BpU
 have BrU := hkU.blk (by simp) BrW
 have ⟨LrU, CrU, FrU⟩ := BrU
 have hBU : Below w0.heap.size w0 U := hBr.trans (hkU.toBelow.mono hBr.size)
 have hlnU : bnn < U.heap.size := Nat.lt_of_lt_of_le hln hBU.size
 obtain ⟨nfc, hnfc⟩ : ∃ x, (gn p.ns cb).f = x := ⟨_, rfl⟩
 obtain ⟨nfr, hnfr⟩ : ∃ x, (gn p.ns ra).f = x := ⟨_, rfl⟩
 have f1 := (hBU.cell (p := ⟨bnn, _, none⟩) hln).trans (HCN.out cb hcb).1
 have f2 := (hBU.cell (p := ⟨bnn, _, none⟩) hln).trans (HCN.out ra hra).1
 rw [hnfc] at f1
 rw [hnfr] at f2
 have HNC := Lib.hid hnfc
 have HNR := Lib.hid hnfr
 have hkVU : Kept X V U := hkr.next hkU (by simp)
 have TU := Lib.hid (TR.out.kept0 hkU)
 have hcb9 : (cb : Int) < (N : Int) := by omega
 have hra9 : (ra : Int) < (N : Int) := by omega
 have HST : Hid (returnedT p k (i + 1) (T, false) = if retC p k i then retJ p k i (gf p.fl i).length (Ti, m0) else (Ti, m0)) := by
   show _ = _
   have h9 := HSI.out
   unfold returnedT at h9 ⊢
   rw [If.up, h9]
 have HRC : Hid (retC p k i ↔ ck = 2 ∧ (ca : Int) = rc ∧ nfc = nfr) := by
   show _ ↔ _
   unfold retC
   rw [HEI.out, HEN.out, ← HNC.out, ← HNR.out]
   rfl
 clear hnfc hnfr
 by_cases k1 : ck = 2
 case neg =>
   have z1 : (ck != 2) = true := by simpa using k1
   have HE : Hid (returnedT p k (i + 1) (T, false) = (Ti, m0)) := Lib.hid (HST.out.trans (if_neg (fun h => k1 (HRC.out.1 h).1)))
   clear k1
   go_quiet (fail)
   go_wp2_with fail
   exact ⟨⟨i + 1, m0, Ti, by omega, by go_num, rfl, hkVU.drewN _, Lib.hid (TU.out.kept0 ((Kept.refl [] U).drewN _)), HE⟩, by simp [intOf]; omega⟩
 by_cases k2 : (ca : Int) = rc
 case neg =>
   have z0 : (ck != 2) = false := by simpa using k1
   have z1 : ((ca : Int) != rc) = true := by simpa using k2
   have HE : Hid (returnedT p k (i + 1) (T, false) = (Ti, m0)) := Lib.hid (HST.out.trans (if_neg (fun h => k2 (HRC.out.1 h).2.1)))
   clear k2
   go_quiet (fail)
   go_wp2_with fail
   exact ⟨⟨i + 1, m0, Ti, by omega, by go_num, rfl, hkVU.drewN _, Lib.hid (TU.out.kept0 ((Kept.refl [] U).drewN _)), HE⟩, by simp [intOf]; omega⟩
 by_cases k3 : nfc = nfr
 case neg =>
   have z0 : (ck != 2) = false := by simpa using k1
   have z2 : ((ca : Int) != rc) = false := by simpa using k2
   have z1 : (nfc != nfr) = true := by simpa using k3
   have HE : Hid (returnedT p k (i + 1) (T, false) = (Ti, m0)) := Lib.hid (HST.out.trans (if_neg (fun h => k3 (HRC.out.1 h).2.2)))
   clear k3
   go_quiet (fail)
   go_wp2_with fail
   exact ⟨⟨i + 1, m0, Ti, by omega, by go_num, rfl, hkVU.drewN _, Lib.hid (TU.out.kept0 ((Kept.refl [] U).drewN _)), HE⟩, by simp [intOf]; omega⟩
 have HS2 : Hid (returnedT p k (i + 1) (T, false) = retJ p k i (gf p.fl i).length (Ti, m0)) := Lib.hid (HST.out.trans (if_pos (HRC.out.2 ⟨k1, k2, k3⟩)))
 go_cut [64] (fun s wx => s = .bool false ∧ Kept [] U wx)
 case first =>
   have z0 : (ck != 2) = false := by simpa using k1
   have z2 : ((ca : Int) != rc) = false := by simpa using k2
   have z3 : (nfc != nfr) = false := by simpa using k3
   clear k1 k2 k3
   go_quiet (fail)
   go_wp2_with fail
   go_meet
   exact ⟨rfl, (Kept.refl [] U).drewN _⟩
 case rest =>
 obtain ⟨rfl, hkc⟩ := hcut
 clear C0U F0U CpU FpU CrU FrU CcU FcU f1 f2 k1 k2 k3
 have hkVc : Kept X V wc := hkVU.next hkc (by simp)
 have HBC : Hid (Below w0.heap.size w0 wc) := Lib.hid (hBU.trans (hkc.toBelow.mono hBU.size))
 have TC := Lib.hid (TU.out.kept0 hkc)
 have B0C := hkc.blk (by simp) B0U
 have ⟨L0C, C0C, F0C⟩ := B0C
 have BpC := hkc.blk (by simp) BpU
 have ⟨LpC, CpC, FpC⟩ := BpC
 have BrC := hkc.blk (by simp) BrU
 have ⟨LrC, CrC, FrC⟩ := BrC
 have BcC := hkc.blk (by simp) BcU
 have ⟨LcC, CcC, FcC⟩ := BcC
 obtain ⟨Ai, ni, ci, fi1, -, fi3⟩ := HCF.out i hlt
 have HI1 := Lib.hid fi1
 have HIP := Lib.hid fi3
 have HIL := Lib.hid fi3.1
 have hni : ni ≤ 8192 := by have := (HP.out.ok.fl i (by rw [HP.out.fl.1]; exact hlt)).1; have := fi3.1; omega
 have HXC : Hid (∀ y, wc.heap.size ≤ y → y ∉ X) := Lib.hid (fun y hy => HXV.out y (by have := hkVc.size; omega))
 clear fi1 fi3
 go_wp2_with fail
 go_loopw [6, 10] (fun s6 s10 wq => ∃ (j : Nat) (m : Bool) (Tj : Nat → Nat → Nat → Bool), j ≤ ni ∧ s10 = .int .i64 j ∧ s6 = .bool m ∧ Kept X wc wq ∧ Hid (TabM N F X bs r wq Tj) ∧ Hid (retJ p k i j (Ti, m0) = (Tj, m))) (fun _ s10 _ => ni - (intOf s10).toNat)
 case atStart => exact ⟨0, m0, Ti, Nat.zero_le _, rfl, rfl, Kept.refl _ _, TC, Lib.hid rfl⟩
 case round =>
 rename World => wq
 clear C0C F0C CpC FpC CrC FrC CcC FcC
 obtain ⟨j, m1, Tj, hj, rfl, rfl, hkq, TQ, HSJ⟩ := hrel
 have B0Q := hkq.blk hX0 B0C
 have ⟨L0Q, C0Q, F0Q⟩ := B0Q
 have BpQ := hkq.blk hXp BpC
 have ⟨LpQ, CpQ, FpQ⟩ := BpQ
 have BrQ := hkq.blk hXr BrC
 have ⟨LrQ, CrQ, FrQ⟩ := BrQ
 have BcQ := hkq.blk hXc BcC
 have ⟨LcQ, CcQ, FcQ⟩ := BcQ
 have hBq : Below w0.heap.size w0 wq := Kept.below HBC.out HBC.out.size HX.out hkq
 have lfq : bf < wq.heap.size := Nat.lt_of_lt_of_le hlf hBq.size
 have fiq := (hBq.cell (p := ⟨bf, _, none⟩) hlf).trans HI1.out
 by_cases hltj : j < ni
 case neg =>
   obtain rfl : j = ni := by omega
   have HE : Hid (returnedT p k (i + 1) (T, false) = (Tj, m1)) := Lib.hid (by rw [HS2.out, HIL.out, HSJ.out])
   go_wp2_with fail
   exact ⟨⟨i + 1, m1, Tj, by omega, by go_num, rfl, hkVc.next hkq (fun y hy => .inl hy), TQ, HE⟩, by simp [intOf]; omega⟩
 obtain ⟨qb, qo0, rfl, hlq, hcq⟩ := (HIP.out.later hBq).2 (by omega)
 obtain ⟨h1, h2⟩ := hcq j hltj
 obtain ⟨qi, qo, eqj, hqi, hqo⟩ := HP.out.pair (k := i) (i := j) hlt (by rw [HIL.out]; exact hltj)
 rw [eqj] at h1 h2
 have HEQ := Lib.hid eqj
 have hj9 : (j : Int) < (ni : Int) := by omega
 clear hcq eqj
 go_upto_region 13 with fail
 refine wp_named (fun Y => ∃ g, wq.heap.size = g ∧ Blk Y g [.int .i64 qi, .int .i64 qo] ∧ Kept [] wq Y) ⟨_, rfl, Blk.new _ _ _ _ rfl, (Kept.refl _ _).alloc _⟩ ?_
 rintro Y ⟨bq, eq_, Bq, hkY⟩
 rw [eq_]
 have hXq : bq ∉ X := HXC.out bq (by have := hkq.size; omega)
 have BqY := Bq
 have ⟨LqY, CqY, FqY⟩ := BqY
 clear C0Q F0Q CpQ FpQ CrQ FrQ CcQ FcQ h1 h2 eq_ Bq fiq
 have B0Y := hkY.blk (by simp) B0Q
 have ⟨L0Y, C0Y, F0Y⟩ := B0Y
 have BpY := hkY.blk (by simp) BpQ
 have ⟨LpY, CpY, FpY⟩ := BpY
 have BrY := hkY.blk (by simp) BrQ
 have ⟨LrY, CrY, FrY⟩ := BrY
 have BcY := hkY.blk (by simp) BcQ
 have ⟨LcY, CcY, FcY⟩ := BcY
 have HBY : Hid (Below w0.heap.size w0 Y) := Lib.hid (hBq.trans (hkY.toBelow.mono hBq.size))
 have TY := Lib.hid (TQ.out.kept0 hkY)
 have hkcY : Kept X wc Y := hkq.next hkY (by simp)
 have HXY : Hid (∀ y, Y.heap.size ≤ y → y ∉ X) := Lib.hid (fun y hy => HXC.out y (by have := hkcY.size; omega))
 go_wp2_with fail
 go_loopw [6, 12] (fun s6 s12 wz => ∃ (mm : Nat) (m : Bool) (Tm : Nat → Nat → Nat → Bool), mm ≤ nk ∧ s12 = .int .i64 mm ∧ s6 = .bool m ∧ Kept X Y wz ∧ Hid (TabM N F X bs r wz Tm) ∧ Hid (retM p k i j mm (Tj, m1) = (Tm, m))) (fun _ s12 _ => nk - (intOf s12).toNat)
 case atStart => exact ⟨0, m1, Tj, Nat.zero_le _, rfl, rfl, Kept.refl _ _, TY, Lib.hid rfl⟩
 case round =>
 rename World => wz
 clear C0Y F0Y CpY FpY CrY FrY CcY FcY CqY FqY
 obtain ⟨mm, m2, Tm, hmm, rfl, rfl, hkz, TZ0, HSM⟩ := hrel
 have B0Z := hkz.blk hX0 B0Y
 have ⟨L0Z, C0Z, F0Z⟩ := B0Z
 have BpZ := hkz.blk hXp BpY
 have ⟨LpZ, CpZ, FpZ⟩ := BpZ
 have BrZ := hkz.blk hXr BrY
 have ⟨LrZ, CrZ, FrZ⟩ := BrZ
 have BcZ := hkz.blk hXc BcY
 have ⟨LcZ, CcZ, FcZ⟩ := BcZ
 have BqZ := hkz.blk hXq BqY
 have ⟨LqZ, CqZ, FqZ⟩ := BqZ
 have hBz : Below w0.heap.size w0 wz := Kept.below HBY.out HBY.out.size HX.out hkz
 have lfz : bf < wz.heap.size := Nat.lt_of_lt_of_le hlf hBz.size
 have fkz := (hBz.cell (p := ⟨bf, _, none⟩) hlf).trans HK1.out
 have hkcz : Kept X wc wz := hkcY.next hkz (fun y hy => .inl hy)
 by_cases hltm : mm < nk
 case neg =>
   obtain rfl : mm = nk := by omega
   have HE : Hid (retJ p k i (j + 1) (Ti, m0) = (Tm, m2)) := by
     show _ = _
     have h9 := HSJ.out
     have h8 := HSM.out
     unfold retJ at h9 ⊢
     rw [If.up, h9, HKL.out, h8]
   go_wp2_with fail
   exact ⟨⟨j + 1, m2, Tm, by omega, by go_num, rfl, hkcz, TZ0, HE⟩, by simp [intOf]; omega⟩
 obtain ⟨sb, so0, rfl, hls, hcs⟩ := (HKP.out.later hBz).2 (by omega)
 obtain ⟨h1, h2⟩ := hcs mm hltm
 obtain ⟨si, so, esm, hsi, hso⟩ := HP.out.pair (k := k) (i := mm) hk (by rw [HKL.out]; exact hltm)
 rw [esm] at h1 h2
 have HES2 := Lib.hid esm
 have hm9 : (mm : Int) < (nk : Int) := by omega
 clear hcs esm
 go_upto_region 17 with fail
 refine wp_named (fun S => ∃ g, wz.heap.size = g ∧ Blk S g [.int .i64 si, .int .i64 so] ∧ Kept [] wz S) ⟨_, rfl, Blk.new _ _ _ _ rfl, (Kept.refl _ _).alloc _⟩ ?_
 rintro S ⟨bs9, es9, Bs9, hkS⟩
 rw [es9]
 have BsS := Bs9
 have ⟨LsS, CsS, FsS⟩ := BsS
 clear C0Z F0Z CpZ FpZ CrZ FrZ CcZ FcZ CqZ FqZ h1 h2 es9 Bs9 fkz
 have B0S := hkS.blk (by simp) B0Z
 have ⟨L0S, C0S, F0S⟩ := B0S
 have BpS := hkS.blk (by simp) BpZ
 have ⟨LpS, CpS, FpS⟩ := BpS
 have BrS := hkS.blk (by simp) BrZ
 have ⟨LrS, CrS, FrS⟩ := BrS
 have BcS := hkS.blk (by simp) BcZ
 have ⟨LcS, CcS, FcS⟩ := BcS
 have BqS := hkS.blk (by simp) BqZ
 have ⟨LqS, CqS, FqS⟩ := BqS
 have hBS : Below w0.heap.size w0 S := hBz.trans (hkS.toBelow.mono hBz.size)
 have TS := Lib.hid (TZ0.out.kept0 hkS)
 have hkYS : Kept X Y S := hkz.next hkS (by simp)
 have HS9 : Hid (retM p k i j (mm + 1) (Tj, m1) = if Tm ra qo si = true then throughT ca rb qi so F (Tm, m2) else (Tm, m2)) := by
   show _ = _
   have h9 := HSM.out
   unfold retM at h9 ⊢
   rw [If.up, h9, HEN.out, HEI.out, HEQ.out, HES2.out, HFN.out]
   rfl
 cases hv1 : Tm ra qo si with
 | false =>
   have HV1 := Lib.hid hv1
   have HE : Hid (retM p k i j (mm + 1) (Tj, m1) = (Tm, m2)) := Lib.hid (HS9.out.trans (hp_f hv1))
   clear hv1
   go_wp2_with (go_at_call 139; refine (rdoes_is c1 c2 c3 c4 c qo ra si false _ TS.out hN8 hF8 hra hqo hsi HV1.out).mono ?_; rintro e w3 ⟨rfl, hb3⟩; have ⟨hc3, hf3, hg3⟩ := bcell hb3)
   exact ⟨⟨mm + 1, m2, Tm, by omega, by go_num, rfl, hkYS.call hb3, Lib.hid (TS.out.later hb3), HE⟩, by simp [intOf]; omega⟩
 | true =>
   have HV1 := Lib.hid hv1
   obtain ⟨T9, b9, h9⟩ : ∃ T9 b9, throughT ca rb qi so F (Tm, false) = (T9, b9) := ⟨_, _, rfl⟩
   have HE : Hid (retM p k i j (mm + 1) (Tj, m1) = (T9, m2 || b9)) := Lib.hid (by rw [HS9.out, if_pos hv1, through_lin ca rb qi so F Tm m2, h9])
   have H9 := Lib.hid h9
   clear hv1 h9
   cases b9 with
   | false =>
     go_wp2_with (first
       | (go_at_call 139; refine (rdoes_is c1 c2 c3 c4 c qo ra si true _ TS.out hN8 hF8 hra hqo hsi HV1.out).mono ?_; rintro e w3 ⟨rfl, hb3⟩; have ⟨hc3, hf3, hg3⟩ := bcell hb3)
       | (go_at_call 140; refine (rthrough_any ca rb qi so c1 c2 c3 c4 c _ HP.out (hBS.trans (hb3.mono hBS.size)) HX.out (TS.out.later hb3) hca hrb hqi hso).mono ?_; rw [H9.out]; rintro e w4 ⟨rfl, hk4, ht4⟩))
     exact ⟨⟨mm + 1, m2, T9, by omega, by go_num, rfl, (hkYS.call hb3).next hk4 (fun y hy => .inl hy), Lib.hid ht4, Lib.hid (by rw [HE.out, Bool.or_false])⟩, by simp [intOf]; omega⟩
   | true =>
     go_wp2_with (first
       | (go_at_call 139; refine (rdoes_is c1 c2 c3 c4 c qo ra si true _ TS.out hN8 hF8 hra hqo hsi HV1.out).mono ?_; rintro e w3 ⟨rfl, hb3⟩; have ⟨hc3, hf3, hg3⟩ := bcell hb3)
       | (go_at_call 140; refine (rthrough_any ca rb qi so c1 c2 c3 c4 c _ HP.out (hBS.trans (hb3.mono hBS.size)) HX.out (TS.out.later hb3) hca hrb hqi hso).mono ?_; rw [H9.out]; rintro e w4 ⟨rfl, hk4, ht4⟩))
     exact ⟨⟨mm + 1, true, T9, by omega, by go_num, rfl, (hkYS.call hb3).next hk4 (fun y hy => .inl hy), Lib.hid ht4, Lib.hid (by rw [HE.out, Bool.or_true])⟩, by simp [intOf]; omega⟩
end Go.Proofs.YtooejoajojanjaaGreatDoor
namespace Go.Proofs.YtooejoajojanjaaGreatDoor
open Go.RowKit Go.Df Go.Df.If
attribute [local go_sem ↓] Go.wp_at_zero Go.wp_at_succ
variable {p : Pb} {N F mN : Nat} {A1 A2 A3 A4 : Option Addr} {n2 n3 n4 : Nat} {X : List Nat} {bs : Nat → Nat} {r : Nat} {w0 w : World} {T : Nat → Nat → Nat → Bool}
def truthOf : Value → Nat | .bool true => 1 | _ => 0
set_option maxRecDepth 100000 in
set_option maxHeartbeats 8000000 in
theorem rclose_any (c1 c2 c3 c4 c : Nat) (w : World) (hP : PbW p N F mN A1 A2 A3 A4 n2 n3 n4 w0) (hb0 : Below w0.heap.size w0 w) (hX : ∀ x ∈ X, w0.heap.size ≤ x) (hT : TabM N F X bs r w T) (hN1 : 0 < N) (hsnd : SndT p (T, false)) (hmain : T p.mn.toNat 0 0 = true) :
   Calls Tryz.prog 56 #[.agg #[.slice A1 N c1, .slice A2 n2 c2, .int .i64 mN, .int .i64 (F : Nat), .slice A3 n3 c3, .slice A4 n4 c4, .int .i64 (F : Nat), .slice (some ⟨r, 0, none⟩) N c, .slice none 0 0, .bool false], .bool true] w fun e w' => e = .returned (.tuple #[]) ∧ Kept X w w' ∧ ∃ T', TabM N F X bs r w' T' ∧ ∀ n a d, T' n a d = true ↔ PE p a n d := by
 have HP := Lib.hid hP
 have HX := Lib.hid hX
 have hN8 := hP.N8
 have hF8 := hP.F8
 have hE8 : n2 ≤ 32768 := by have := (sup_parts hP.ok.sup).2.1; have := hP.ed.1; omega
 have HES := Lib.hid hP.ed.1
 have HSS := Lib.hid hP.sd.1
 have HXlt := Lib.hid hT.lt
 have HT := Lib.hid hT
 have HSN := Lib.hid hsnd
 have HMN := Lib.hid hmain
 have HFN := Lib.hid hP.Fn
 have hszw := hb0.size
 clear hP hX hT hsnd hmain
 go_enter Tryz.func56, Tryz.ntmps56
 go_upto_region 1 with fail
 refine wp_named (fun W => ∃ b0, w.heap.size = b0 ∧ Blk W b0 [.slice A1 N c1, .slice A2 n2 c2, .int .i64 mN, .int .i64 (F : Nat), .slice A3 n3 c3, .slice A4 n4 c4, .int .i64 (F : Nat), .slice (some ⟨r, 0, none⟩) N c, .slice none 0 0, .bool false] ∧ Below w.heap.size w W) ⟨_, rfl, ?_, ?_⟩ ?_
 · exact kbn
 · go_grown
 rintro W ⟨b0, e0, B0, hB⟩
 rw [e0]
 have G0 : w.heap.size ≤ b0 := by omega
 clear e0
 have ⟨L0, C0, F0⟩ := B0
 have hX0 : b0 ∉ X := fun h => by have := HXlt.out _ h; omega
 have HXW : Hid (∀ y, W.heap.size ≤ y → y ∉ X) := fun y hy h => by have := HXlt.out _ h; have := hB.size; omega
 have HBW : Hid (Below w0.heap.size w0 W) := Lib.hid (hb0.trans (hB.mono hszw))
 go_upto_region 3 with fail
 refine wp_named (fun V => ∃ g, W.heap.size = g ∧ Blk V g [.slice A1 N c1, .slice A2 n2 c2, .int .i64 mN, .int .i64 (F : Nat), .slice A3 n3 c3, .slice A4 n4 c4] ∧ Kept [] W V) ⟨_, rfl, Blk.new _ _ _ _ rfl, (Kept.refl _ _).alloc _⟩ ?_
 rintro V ⟨bp, ep, Bp, hkV⟩
 rw [ep]
 have hXp : bp ∉ X := HXW.out bp (by omega)
 have HBV : Hid (Below w0.heap.size w0 V) := Lib.hid (HBW.out.trans (hkV.toBelow.mono HBW.out.size))
 have HwV : Hid (Kept [] w V) := Lib.hid (((Kept.refl [] w).call hB).next hkV (by simp))
 have TV := Lib.hid (HT.out.kept0 HwV.out)
 have B0V := hkV.blk (by simp) B0
 have BpV := Bp
 clear C0 F0 ep Bp
 obtain ⟨PM, hPM⟩ : ∃ PM : Nat → World → Prop, PM = fun u wr => ∃ T, TabM N F X bs r wr T ∧ SndT p (T, false) ∧ T p.mn.toNat 0 0 = true ∧ unhT p T = u := ⟨_, rfl⟩
 have HPM := Lib.hid hPM
 have hPM0 : Hid (∃ u, PM u V) := Lib.hid (by rw [hPM]; exact ⟨_, T, TV.out, HSN.out, HMN.out, rfl⟩)
 clear hPM
 go_wp2_with fail
 go_loopw [5] (fun s5 wr => ∃ (m : Bool), s5 = .bool m ∧ Kept X V wr ∧ Hid (m = true → ∃ u, PM u wr) ∧ Hid (m = false → ∃ T', TabM N F X bs r wr T' ∧ ∀ n a d, T' n a d = true ↔ PE p a n d)) (fun s5 wr => 2 * leastM PM wr + truthOf s5)
 case atStart => exact ⟨true, rfl, Kept.refl _ _, Lib.hid (fun _ => hPM0.out), Lib.hid (fun h => by cases h)⟩
 case round =>
 obtain ⟨m, rfl, hkr, hex, hdone⟩ := hrel
 have B0r := hkr.blk hX0 B0V
 have Bpr := hkr.blk hXp BpV
 have ⟨L0r, C0r, F0r⟩ := B0r
 have ⟨Lpr, Cpr, Fpr⟩ := Bpr
 have hBr : Below w0.heap.size w0 wr := Kept.below HBV.out HBV.out.size HX.out hkr
 cases m with
 | false =>
   have HD := Lib.hid (hdone.out rfl)
   clear hdone hex
   go_wp2_with fail
   go_end0
   exact ⟨rfl, (keptWide HwV.out (by simp)).next hkr (fun y hy => .inl hy), HD.out⟩
 | true =>
 have hsp := leastM_spec (hex.out rfl)
 obtain ⟨lv, hlv⟩ : ∃ lv, leastM PM wr = lv := ⟨_, rfl⟩
 rw [hlv] at hsp
 have HLV := Lib.hid hlv
 rw [show PM = _ from HPM.out] at hsp
 obtain ⟨T0, hT0, hs0, hm0, hu0⟩ := hsp
 have TR := Lib.hid hT0
 have HS0 := Lib.hid hs0
 have HM0 := Lib.hid hm0
 have HU0 := Lib.hid hu0
 obtain ⟨T1, m1, h1⟩ : ∃ T1 m1, seededT p n4 (T0, false) = (T1, m1) := ⟨_, _, rfl⟩
 have H1 := Lib.hid h1
 clear hlv hT0 hs0 hm0 hu0 h1 hex hdone
 go_upto_region 5 with (go_at_call 98; refine (rseeded30_any c1 c2 c3 c4 c _ HP.out hBr HX.out TR.out).mono ?_; rw [H1.out]; rintro e w1 ⟨rfl, hk1, ht1⟩)
 have hkV1 : Kept X V w1 := hkr.next hk1 (fun y hy => .inl hy)
 have B01 := hk1.blk hX0 B0r
 have Bp1 := hk1.blk hXp Bpr
 have ⟨L01, C01, F01⟩ := B01
 have ⟨Lp1, Cp1, Fp1⟩ := Bp1
 have HB1 : Hid (Below w0.heap.size w0 w1) := Lib.hid (Kept.below HBV.out HBV.out.size HX.out hkV1)
 have TW1 := Lib.hid ht1
 clear C0r F0r Cpr Fpr ht1
 go_wp2_with fail
 go_loopw [5, 6] (fun s5 s6 wq => ∃ (k : Nat) (mk : Bool) (Tk : Nat → Nat → Nat → Bool), k ≤ n2 ∧ s6 = .int .i64 k ∧ s5 = .bool mk ∧ Kept X w1 wq ∧ Hid (TabM N F X bs r wq Tk) ∧ Hid (roundE p k (T1, m1) = (Tk, mk))) (fun _ s6 _ => n2 - (intOf s6).toNat)
 case atStart => exact ⟨0, m1, T1, Nat.zero_le _, rfl, rfl, Kept.refl _ _, TW1, Lib.hid rfl⟩
 case round =>
 rename World => wq
 clear C01 F01 Cp1 Fp1
 obtain ⟨k, mk, Tk, hk, rfl, rfl, hkq, TQ, HRk⟩ := hrel
 have ⟨L0q, C0q, F0q⟩ := hkq.blk hX0 B01
 have ⟨Lpq, Cpq, Fpq⟩ := hkq.blk hXp Bp1
 have hBq : Below w0.heap.size w0 wq := Kept.below HB1.out HB1.out.size HX.out hkq
 by_cases hlt : k < n2
 case neg =>
   obtain rfl : k = n2 := by omega
   have HRT : Hid (roundT p T0 = (Tk, mk)) := Lib.hid (by unfold roundT; rw [HES.out, HSS.out, H1.out, HRk.out])
   have hkVq : Kept X V wq := hkV1.next hkq (fun y hy => .inl hy)
   have hsk : SndT p (Tk, false) := fun n a d h => by
     have := round_snd HP.out.ok HS0.out n a d
     rw [HRT.out] at this
     exact this h
   have hrl := round_rl HP.out.ok T0
   rw [HRT.out] at hrl
   have hmk' : Tk p.mn.toNat 0 0 = true := hrl.le _ _ _ HM0.out
   have hPMk : PM (unhT p Tk) wq := by rw [show PM = _ from HPM.out]; exact ⟨Tk, TQ.out, hsk, hmk', rfl⟩
   have hle := leastM_le hPMk
   have HLE := Lib.hid hle
   have HPK := Lib.hid hPMk
   have HRL := Lib.hid hrl
   have HSK := Lib.hid hsk
   clear hle hPMk hsk hrl hmk'
   cases mk with
   | true =>
     have hlt' : unhT p Tk < unhT p T0 := by have h9 := round_unh HP.out.ok (T := T0) (by rw [HRT.out]); rw [HRT.out] at h9; exact h9
     have HLT := Lib.hid hlt'
     clear hlt'
     go_wp2_with fail
     refine ⟨⟨true, rfl, hkVq, Lib.hid (fun _ => ⟨_, HPK.out⟩), Lib.hid (fun h => by cases h)⟩, ?_⟩
     have h1 := HLE.out; have h2 := HLT.out; have h3 := HU0.out; have h4 := HLV.out
     simp only [truthOf]
     omega
   | false =>
     have hTk : Tk = T0 := by have h9 := HRL.out.fl rfl; injection h9
     have hclo : Clo p fun a n d => T0 n a d = true := round_clo HP.out.ok HM0.out HS0.out (by rw [HRT.out])
     have HFIN : Hid (∀ n a d, Tk n a d = true ↔ PE p a n d) := Lib.hid (fun n a d => ⟨HSK.out n a d, fun h => by rw [hTk]; exact hclo.all h⟩)
     have HUK : Hid (unhT p Tk = unhT p T0) := Lib.hid (by rw [hTk])
     clear hTk hclo
     go_wp2_with fail
     refine ⟨⟨false, rfl, hkVq, Lib.hid (fun h => by cases h), Lib.hid (fun _ => ⟨Tk, TQ.out, HFIN.out⟩)⟩, ?_⟩
     have h1 := HLE.out; have h2 := HUK.out; have h3 := HU0.out; have h4 := HLV.out
     simp only [truthOf]
     omega
 have hk9 : (k : Int) < (n2 : Int) := by omega
 obtain ⟨be, oe, rfl, hle, hce⟩ := HP.out.ed.2 (by omega)
 obtain ⟨ea, eb, ek, ec, en, hea, heb, hek1, hek5⟩ := HP.out.edge hlt
 have e3 := (hBq.cell (p := ⟨be, _, none⟩) hle).trans (hce k hlt).2.2.1
 rw [en] at e3
 have hleq : be < wq.heap.size := Nat.lt_of_lt_of_le hle hBq.size
 have HEN := Lib.hid en
 have HRK : Hid (roundE p (k + 1) (T1, m1) = edgeT p k (Tk, mk)) := by
   show _ = _
   have h9 := HRk.out
   unfold roundE at h9 ⊢
   rw [If.up, h9]
 have HEE : Hid (∀ s, edgeT p k s = if ek = 1 ∨ ek = 5 then passedT p k F s else if ek = 2 then enteredT p k F s else returnedT p k n2 s) := Lib.hid (fun s => by
   unfold edgeT
   rw [HEN.out, HFN.out, HES.out])
 clear hce en
 by_cases k1 : ek = 1 ∨ ek = 5
 · have HE9 : Hid (∀ s, edgeT p k s = passedT p k F s) := Lib.hid (fun s => by rw [HEE.out, if_pos k1])
   clear HEE hek1 hek5
   rcases k1 with rfl | rfl
   all_goals
     obtain ⟨T9, b9, h9⟩ : ∃ T9 b9, passedT p k F (Tk, false) = (T9, b9) := ⟨_, _, rfl⟩
     have HE : Hid (roundE p (k + 1) (T1, m1) = (T9, mk || b9)) := Lib.hid (by rw [HRK.out, HE9.out, passed_lin p k F Tk mk, h9])
     have H9 := Lib.hid h9
     clear h9
     cases mk <;> cases b9
     · go_wp2_with (go_at_call 99; refine (rpassed30_any k c1 c2 c3 c4 c _ HP.out hBq HX.out TQ.out hlt).mono ?_; rw [H9.out]; rintro e w4 ⟨rfl, hk4, ht4⟩)
       exact ⟨⟨k + 1, false, T9, by omega, by go_num, rfl, hkq.next hk4 (fun y hy => .inl hy), Lib.hid ht4, HE⟩, by simp [intOf]; omega⟩
     · go_wp2_with (go_at_call 99; refine (rpassed30_any k c1 c2 c3 c4 c _ HP.out hBq HX.out TQ.out hlt).mono ?_; rw [H9.out]; rintro e w4 ⟨rfl, hk4, ht4⟩)
       exact ⟨⟨k + 1, true, T9, by omega, by go_num, rfl, hkq.next hk4 (fun y hy => .inl hy), Lib.hid ht4, HE⟩, by simp [intOf]; omega⟩
     · go_wp2_with (go_at_call 99; refine (rpassed30_any k c1 c2 c3 c4 c _ HP.out hBq HX.out TQ.out hlt).mono ?_; rw [H9.out]; rintro e w4 ⟨rfl, hk4, ht4⟩)
       exact ⟨⟨k + 1, true, T9, by omega, by go_num, rfl, hkq.next hk4 (fun y hy => .inl hy), Lib.hid ht4, HE⟩, by simp [intOf]; omega⟩
     · go_wp2_with (go_at_call 99; refine (rpassed30_any k c1 c2 c3 c4 c _ HP.out hBq HX.out TQ.out hlt).mono ?_; rw [H9.out]; rintro e w4 ⟨rfl, hk4, ht4⟩)
       exact ⟨⟨k + 1, true, T9, by omega, by go_num, rfl, hkq.next hk4 (fun y hy => .inl hy), Lib.hid ht4, HE⟩, by simp [intOf]; omega⟩
 by_cases k2 : ek = 2
 · have HE9 : Hid (∀ s, edgeT p k s = enteredT p k F s) := Lib.hid (fun s => by rw [HEE.out, if_neg k1, if_pos k2])
   subst k2
   clear HEE hek1 hek5 k1
   obtain ⟨T9, b9, h9⟩ : ∃ T9 b9, enteredT p k F (Tk, false) = (T9, b9) := ⟨_, _, rfl⟩
   have HE : Hid (roundE p (k + 1) (T1, m1) = (T9, mk || b9)) := Lib.hid (by rw [HRK.out, HE9.out, entered_lin p k F Tk mk, h9])
   have H9 := Lib.hid h9
   clear h9
   cases mk <;> cases b9
   · go_wp2_with (go_at_call 100; refine (rentered30_any k c1 c2 c3 c4 c _ HP.out hBq HX.out TQ.out hlt).mono ?_; rw [H9.out]; rintro e w4 ⟨rfl, hk4, ht4⟩)
     exact ⟨⟨k + 1, false, T9, by omega, by go_num, rfl, hkq.next hk4 (fun y hy => .inl hy), Lib.hid ht4, HE⟩, by simp [intOf]; omega⟩
   · go_wp2_with (go_at_call 100; refine (rentered30_any k c1 c2 c3 c4 c _ HP.out hBq HX.out TQ.out hlt).mono ?_; rw [H9.out]; rintro e w4 ⟨rfl, hk4, ht4⟩)
     exact ⟨⟨k + 1, true, T9, by omega, by go_num, rfl, hkq.next hk4 (fun y hy => .inl hy), Lib.hid ht4, HE⟩, by simp [intOf]; omega⟩
   · go_wp2_with (go_at_call 100; refine (rentered30_any k c1 c2 c3 c4 c _ HP.out hBq HX.out TQ.out hlt).mono ?_; rw [H9.out]; rintro e w4 ⟨rfl, hk4, ht4⟩)
     exact ⟨⟨k + 1, true, T9, by omega, by go_num, rfl, hkq.next hk4 (fun y hy => .inl hy), Lib.hid ht4, HE⟩, by simp [intOf]; omega⟩
   · go_wp2_with (go_at_call 100; refine (rentered30_any k c1 c2 c3 c4 c _ HP.out hBq HX.out TQ.out hlt).mono ?_; rw [H9.out]; rintro e w4 ⟨rfl, hk4, ht4⟩)
     exact ⟨⟨k + 1, true, T9, by omega, by go_num, rfl, hkq.next hk4 (fun y hy => .inl hy), Lib.hid ht4, HE⟩, by simp [intOf]; omega⟩
 have HE9 : Hid (∀ s, edgeT p k s = returnedT p k n2 s) := Lib.hid (fun s => by rw [HEE.out, if_neg k1, if_neg k2])
 have z1 : (ek == 1) = false := by simp; omega
 have z2 : (ek == 5) = false := by simp; omega
 have z3 : (ek == 2) = false := by simp; omega
 clear HEE hek1 hek5 k1 k2
 obtain ⟨T9, b9, h9⟩ : ∃ T9 b9, returnedT p k n2 (Tk, false) = (T9, b9) := ⟨_, _, rfl⟩
 have HE : Hid (roundE p (k + 1) (T1, m1) = (T9, mk || b9)) := Lib.hid (by rw [HRK.out, HE9.out, returned_lin p k n2 Tk mk, h9])
 have H9 := Lib.hid h9
 clear h9
 cases mk <;> cases b9
 · go_wp2_with (go_at_call 101; refine (rreturned30_any k c1 c2 c3 c4 c _ HP.out hBq HX.out TQ.out hlt hN1).mono ?_; rw [H9.out]; rintro e w4 ⟨rfl, hk4, ht4⟩)
   exact ⟨⟨k + 1, false, T9, by omega, by go_num, rfl, hkq.next hk4 (fun y hy => .inl hy), Lib.hid ht4, HE⟩, by simp [intOf]; omega⟩
 · go_wp2_with (go_at_call 101; refine (rreturned30_any k c1 c2 c3 c4 c _ HP.out hBq HX.out TQ.out hlt hN1).mono ?_; rw [H9.out]; rintro e w4 ⟨rfl, hk4, ht4⟩)
   exact ⟨⟨k + 1, true, T9, by omega, by go_num, rfl, hkq.next hk4 (fun y hy => .inl hy), Lib.hid ht4, HE⟩, by simp [intOf]; omega⟩
 · go_wp2_with (go_at_call 101; refine (rreturned30_any k c1 c2 c3 c4 c _ HP.out hBq HX.out TQ.out hlt hN1).mono ?_; rw [H9.out]; rintro e w4 ⟨rfl, hk4, ht4⟩)
   exact ⟨⟨k + 1, true, T9, by omega, by go_num, rfl, hkq.next hk4 (fun y hy => .inl hy), Lib.hid ht4, HE⟩, by simp [intOf]; omega⟩
 · go_wp2_with (go_at_call 101; refine (rreturned30_any k c1 c2 c3 c4 c _ HP.out hBq HX.out TQ.out hlt hN1).mono ?_; rw [H9.out]; rintro e w4 ⟨rfl, hk4, ht4⟩)
   exact ⟨⟨k + 1, true, T9, by omega, by go_num, rfl, hkq.next hk4 (fun y hy => .inl hy), Lib.hid ht4, HE⟩, by simp [intOf]; omega⟩
set_option maxRecDepth 100000 in
set_option maxHeartbeats 8000000 in
theorem redges_any (c1 c2 c3 c4 : Nat) (w : World) (hP : PbW p N F mN A1 A2 A3 A4 n2 n3 n4 w) :
   Calls Tryz.prog 63 #[.agg #[.slice A1 N c1, .slice A2 n2 c2, .int .i64 mN, .int .i64 (F : Nat), .slice A3 n3 c3, .slice A4 n4 c4]] w fun e w' => ∃ X bs r c T, e = .returned (tabV N F r c) ∧ TabM N F X bs r w' T ∧ (∀ n a d, T n a d = true ↔ PE p a n d) ∧ Below w.heap.size w w' := by
 have hN8 := hP.N8
 have hF8 := hP.F8
 have hF1 := hP.F1
 have hm := main_in (sup_parts hP.ok.sup).2.2.1
 have hmN : mN < N := by have := hP.hm; have := hP.nd.1; omega
 have HMT : Hid (p.mn.toNat = mN) := Lib.hid (by rw [hP.hm]; rfl)
 have HP := Lib.hid hP
 clear hP hm
 go_enter Tryz.func63, Tryz.ntmps63
 go_upto_region 1 with fail
 refine wp_named (fun W => ∃ b0 b1, w.heap.size = b0 ∧ w.heap.size + 1 = b1 ∧ Blk W b0 [.slice A1 N c1, .slice A2 n2 c2, .int .i64 mN, .int .i64 (F : Nat), .slice A3 n3 c3, .slice A4 n4 c4] ∧ Blk W b1 [.int .i64 0, .slice none 0 0] ∧ Below w.heap.size w W) ⟨_, _, rfl, rfl, ?_, ?_, ?_⟩ ?_
 · exact (Blk.new _ _ _ _ (by first | rfl | simp)).alloc _
 · exact kbn
 · go_grown
 rintro W ⟨b0, b1, e0, e1, B0, B1, hB⟩
 rw [e1, e0]
 have G0 : w.heap.size ≤ b0 := by omega
 have n01 : b0 ≠ b1 := by omega
 have G1 : w.heap.size ≤ b1 := by omega
 have n10 : b1 ≠ b0 := by omega
 clear e0 e1
 have ⟨L0, C0, F0⟩ := B0
 have ⟨L1, C1, F1⟩ := B1
 have HPW := Lib.hid (HP.out.later hB)
 go_upto_region 2 with (go_at_call 54; refine (rempty_any A1 A2 A3 A4 N c1 n2 c2 n3 c3 n4 c4 mN F _ (by omega) hN8 hF1 hF8).mono ?_; rintro e w1 ⟨X, bs, r, c, rfl, ht1, hX1, hr1, hb1⟩)
 have T1 := Lib.hid ht1
 have HX1 := Lib.hid hX1
 refine wp_named (fun V => ∃ g, w1.heap.size = g ∧ Blk V g [.int .i64 (F : Nat), .slice (some ⟨r, 0, none⟩) N c] ∧ Kept [] w1 V) ⟨_, rfl, Blk.new _ _ _ _ rfl, (Kept.refl _ _).alloc _⟩ ?_
 rintro V ⟨g, eg, Bg, hkV⟩
 rw [eg]
 have hkWV : Kept [] W V := ((Kept.refl [] W).call hb1).next hkV (by simp)
 have TV := Lib.hid (ht1.kept0 hkV)
 have B0V := hkWV.blk (by simp) B0
 have B1V := hkWV.blk (by simp) B1
 have ⟨L0V, C0V, F0V⟩ := B0V
 have ⟨LGV, CGV, FGV⟩ := Bg
 have hXg : g ∉ X := fun h => by have := ht1.lt _ h; omega
 have hX0 : b0 ∉ X := fun h => by have := hX1 _ h; have := L0; omega
 have hX9 : b1 ∉ X := fun h => by have := hX1 _ h; have := L1; omega
 clear C0 F0 C1 F1 ht1 hX1 eg
 go_upto_region 3 with (go_at_call 97; refine (rtput_is c 0 mN 0 false _ TV.out hN8 hF8 hmN hF1 hF1 rfl).mono ?_; rintro e w2 ⟨rfl, hk2, ht2⟩)
 obtain ⟨T2, hT2⟩ : ∃ T2, (putT ((fun _ _ _ => false : Nat → Nat → Nat → Bool), false) mN 0 0).1 = T2 := ⟨_, rfl⟩
 rw [hT2] at ht2
 have HT2 := Lib.hid hT2
 have T2M := Lib.hid ht2
 have hkW2 : Kept [] W w2 := kept_fresh hkWV hk2 HX1.out
 have B02 := hk2.blk hX0 B0V
 have Bg2 := hk2.blk hXg Bg
 have B12 := hk2.blk hX9 B1V
 have ⟨L02, C02, F02⟩ := B02
 have ⟨LG2, CG2, FG2⟩ := Bg2
 have HSND : Hid (SndT p (T2, false)) := Lib.hid (by
   rw [← HT2.out]
   intro n a d h
   unfold putT at h
   simp at h
   obtain ⟨rfl, rfl, rfl⟩ := h
   rw [← HMT.out]
   exact .main)
 have HMAIN : Hid (T2 p.mn.toNat 0 0 = true) := Lib.hid (by rw [← HT2.out, HMT.out]; unfold putT; simp)
 clear C0V F0V CGV FGV ht2 hT2
 go_upto_region 4 with (go_at_call 56; refine (rclose_any c1 c2 c3 c4 c _ HPW.out hkW2.toBelow HX1.out T2M.out (by omega) HSND.out HMAIN.out).mono ?_; rintro e w3 ⟨rfl, hk3, T3, ht3, hpe⟩)
 have hkW3 : Kept [] W w3 := kept_fresh hkW2 hk3 HX1.out
 have Bg3 := hk3.blk hXg Bg2
 have B13 := hk3.blk hX9 B12
 have ⟨LG3, CG3, FG3⟩ := Bg3
 have ⟨L13, C13, F13⟩ := B13
 have T3M := Lib.hid ht3
 have HPE := Lib.hid hpe
 have hb1r : b1 ≠ r := by have h3 := L1; omega
 clear C02 F02 CG2 FG2 ht3 hpe
 go_wp2_with fail
 refine retNamedT (fun Y => Blk Y b1 [.int .i64 (F : Nat), .slice (some ⟨r, 0, none⟩) N c] ∧ Kept [b1] w3 Y) ⟨(B13.set 0 _).set 1 _, ((Kept.refl [b1] w3).set b1 0 _ (.inl (by simp))).set b1 1 _ (.inl (by simp))⟩ ?_
 rintro Y ⟨BY, hkY⟩
 have ⟨LY, CY, FY⟩ := BY
 have hkw3 : Kept [] w w3 := ((Kept.refl [] w).call hB).next hkW3 (by simp)
 refine bodyPost_ret (by simp [results, Tryz.results63, go_sem, CY]; try rfl) rfl ?_
 exact ⟨X, bs, r, c, T3, rfl, T3M.out.kept hkY (by simpa using hb1r.symm) (fun x hx h => hX9 (by rw [List.mem_singleton] at h; rw [← h]; exact hx)), HPE.out, (kept_fresh hkw3 hkY (by simpa using G1)).toBelow⟩
end Go.Proofs.YtooejoajojanjaaGreatDoor
