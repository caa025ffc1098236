/- Texts: Oj Tb Tp. -/
import Derived.Test.YtincpmdldpakkaaGreatDoorJb08
import Derived.Test.YtincpmdldpakkaaGreatDoorJb06
import Derived.Test.YtincpmdldpakkaaGreatDoorJb02
import Derived.Shelf.SlSortCmp.WholeK
import Derived.Shelf.SlSortCmp.NoneTotal
namespace Go.Df
open Go.RowKit
theorem own_keptT {X : List Nat} {w w1 : World} {base : Nat} {e : TypeId} {k : Nat} {v : Value} {n : Nat} {xs : List Value} (h : w.ownsRow base e k v n xs) (hk : Kept X w w1) (hX : ∀ g, v.ownBlock = some g → g ∉ X) : w1.ownsRow base e k v n xs := by
 refine ⟨h.1, ?_⟩
 rcases h.2 with h2 | ⟨g, cap, cur, rfl, h3, h4, h5⟩
 · exact .inl h2
 · exact .inr ⟨g, cap, cur, rfl, h3, (hk.block g (Array.getElem?_eq_some_iff.1 h4).1 (hX g rfl)).trans h4, h5⟩
theorem own_cellsT {w : World} {base : Nat} {e : TypeId} {k n : Nat} {v : Value} {xs : List Value} (h : w.ownsRow base e k v n xs) (h0 : 0 < n) :
   ∃ g c, v = .slice (some ⟨g, 0, none⟩) n c ∧ base ≤ g ∧ g < w.heap.size ∧ n ≤ c ∧ c ≤ maxLen ∧ (∀ i, i < n * k → w.cell? ⟨g, i, none⟩ = xs[i]?) ∧ ∀ i, w.frozen? ⟨g, i, none⟩ = false := by
 rcases h.2 with ⟨rfl, rfl⟩ | ⟨g, cap, cur, rfl, hb, hh, hnc, hcm, hcs, htk⟩
 · omega
 · refine ⟨g, cap, rfl, hb, ?_, hnc, hcm, fun i hi => ?_, fun i => ?_⟩
   · rcases Nat.lt_or_ge g w.heap.size with h1 | h1
     · exact h1
     · rw [Array.getElem?_eq_none h1] at hh; cases hh
   · rw [← htk, List.getElem?_take_of_lt hi]
     simp [World.cell?, hh]
   · simp [World.frozen?, hh]
abbrev SXu (X : List Nat) (ga gb : Nat) (W w' : World) : Prop := Kept X W w' ∧ (∀ o, w'.cell? ⟨ga, o, none⟩ = W.cell? ⟨ga, o, none⟩) ∧ (∀ o, w'.cell? ⟨gb, o, none⟩ = W.cell? ⟨gb, o, none⟩)
theorem SXu.of {X : List Nat} {ga gb : Nat} {W w' : World} (h : Kept X W w') (ha : ga < W.heap.size) (hb : gb < W.heap.size) (xa : ga ∉ X) (xb : gb ∉ X) : SXu X ga gb W w' := ⟨h, fun o => h.cell ga o ha xa, fun o => h.cell gb o hb xb⟩
namespace If
end If
end Go.Df
namespace Go.Proofs.YtincpmdldpakkaaGreatDoor
open Go.RowKit Go.Df Go.Df.If
theorem retNamedT {P : Program} {f : Func} {Q : Ending → World → Prop} {e : Exit} {a : Act} {w : World} (S : World → Prop) (h0 : S w) (h : ∀ X, S X → bodyPost P f Q e a X) : bodyPost P f Q e a w := h w h0
theorem inti_info : (Tryz.prog.info? 3).map (fun i => (i.zero, i.size, i.bytes)) = some (some (.int .i64 0), 1, 8) := by kernel_rfl
theorem rowi_info : (Tryz.prog.info? 30).map (fun i => (i.zero, i.size, i.bytes)) = some (some (.slice none 0 0), 1, 24) := by kernel_rfl
end Go.Proofs.YtincpmdldpakkaaGreatDoor
namespace Go.Df
open Go.RowKit
theorem flat_len9 {α : Type} (f : α → List Value) (k : Nat) (hk : ∀ x, (f x).length = k) : ∀ l : List α, (l.flatMap f).length = l.length * k
 | [] => by simp
 | x :: l => by rw [List.flatMap_cons, List.length_append, hk, flat_len9 f k hk l, List.length_cons, Nat.succ_mul]; omega
theorem flat_at9 {α : Type} (f : α → List Value) (k : Nat) (hk : ∀ x, (f x).length = k) : ∀ (l : List α) {i q : Nat} (hi : i < l.length) (_ : q < k), (l.flatMap f)[i * k + q]? = (f l[i])[q]?
 | x :: l, 0, q, _, hq => by
   rw [List.flatMap_cons, Nat.zero_mul, Nat.zero_add, List.getElem?_append_left (by rw [hk]; exact hq)]; rfl
 | x :: l, i + 1, q, hi, hq => by
   have h1 := flat_at9 f k hk l (i := i) (q := q) (by simpa using hi) hq
   rw [List.flatMap_cons, List.getElem?_append_right (by rw [hk, Nat.succ_mul]; omega), hk, show (i + 1) * k + q - k = i * k + q by rw [Nat.succ_mul]; omega, h1]
   rfl
def ndc (x : Sp.Nd) : List Value := [.int .i64 x.f, .int .i64 x.k, .int .i64 x.i]
def edc (x : Sp.Ed) : List Value := [.int .i64 x.a, .int .i64 x.b, .int .i64 x.k, .int .i64 x.c]
theorem Nds.rd {w : World} {A : Option Addr} {n : Nat} {ns : List Sp.Nd} (h : Nds w A n ns) : Rd w 3 A n (ns.flatMap ndc) := by
 refine ⟨by rw [flat_len9 ndc 3 (fun _ => rfl), h.1], fun hn => ?_⟩
 obtain ⟨b, o, e, hl, hc⟩ := h.2 hn
 refine ⟨b, o, e, hl, fun j hj => ?_⟩
 obtain ⟨i, q, rfl, hq⟩ : ∃ i q, j = i * 3 + q ∧ q < 3 := ⟨j / 3, j % 3, by omega, by omega⟩
 have hi : i < n := by omega
 have hi' : i < ns.length := by rw [h.1]; exact hi
 have h9 := hc i hi
 rw [flat_at9 ndc 3 (fun _ => rfl) ns hi' hq]
 rw [gn_lt hi'] at h9
 match q, hq with
 | 0, _ => exact h9.1
 | 1, _ => exact h9.2.1
 | 2, _ => exact h9.2.2
theorem Nds.own {w : World} {base : Nat} {e : TypeId} {A : Option Addr} {n c : Nat} {l : List Sp.Nd} (h : w.ownsRow base e 3 (.slice A n c) n (l.flatMap ndc)) (hl : l.length = n) : Nds w A n l := by
 refine ⟨hl, fun h0 => ?_⟩
 obtain ⟨g, c', hv, hb, hg, hc, -, hcell, -⟩ := own_cellsT h h0
 injection hv with e1 e2 e3
 subst e1
 refine ⟨g, 0, rfl, hg, fun i hi => ?_⟩
 have hi' : i < l.length := by omega
 have k : ∀ q, q < 3 → w.cell? ⟨g, i * 3 + q, none⟩ = (ndc l[i])[q]? := fun q hq => (hcell _ (by omega)).trans (flat_at9 ndc 3 (fun _ => rfl) l hi' hq)
 rw [gn_lt hi', Nat.zero_add]
 exact ⟨k 0 (by omega), k 1 (by omega), k 2 (by omega)⟩
theorem Eds.rd {w : World} {A : Option Addr} {n : Nat} {es : List Sp.Ed} (h : Eds w A n es) : Rd w 4 A n (es.flatMap edc) := by
 refine ⟨by rw [flat_len9 edc 4 (fun _ => rfl), h.1], fun hn => ?_⟩
 obtain ⟨b, o, e, hl, hc⟩ := h.2 hn
 refine ⟨b, o, e, hl, fun j hj => ?_⟩
 obtain ⟨i, q, rfl, hq⟩ : ∃ i q, j = i * 4 + q ∧ q < 4 := ⟨j / 4, j % 4, by omega, by omega⟩
 have hi : i < n := by omega
 have hi' : i < es.length := by rw [h.1]; exact hi
 have h9 := hc i hi
 rw [flat_at9 edc 4 (fun _ => rfl) es hi' hq]
 rw [ge_lt hi'] at h9
 match q, hq with
 | 0, _ => exact h9.1
 | 1, _ => exact h9.2.1
 | 2, _ => exact h9.2.2.1
 | 3, _ => exact h9.2.2.2
theorem Eds.own {w : World} {base : Nat} {e : TypeId} {A : Option Addr} {n c : Nat} {l : List Sp.Ed} (h : w.ownsRow base e 4 (.slice A n c) n (l.flatMap edc)) (hl : l.length = n) : Eds w A n l := by
 refine ⟨hl, fun h0 => ?_⟩
 obtain ⟨g, c', hv, hb, hg, hc, -, hcell, -⟩ := own_cellsT h h0
 injection hv with e1 e2 e3
 subst e1
 refine ⟨g, 0, rfl, hg, fun i hi => ?_⟩
 have hi' : i < l.length := by omega
 have k : ∀ q, q < 4 → w.cell? ⟨g, i * 4 + q, none⟩ = (edc l[i])[q]? := fun q hq => (hcell _ (by omega)).trans (flat_at9 edc 4 (fun _ => rfl) l hi' hq)
 rw [ge_lt hi', Nat.zero_add]
 exact ⟨k 0 (by omega), k 1 (by omega), k 2 (by omega), k 3 (by omega)⟩
theorem Nds.keptX {X : List Nat} {w w' : World} {A : Option Addr} {n : Nat} {ns : List Sp.Nd} (h : Nds w A n ns) (hk : Kept X w w') (hA : ∀ a, A = some a → a.block ∉ X) : Nds w' A n ns :=
 ⟨h.1, fun hn => by
   obtain ⟨b, o, e, hl, hc⟩ := h.2 hn
   have hx := hA _ e
   exact ⟨b, o, e, Nat.lt_of_lt_of_le hl hk.size, fun i hi => ⟨(hk.cell b _ hl hx).trans (hc i hi).1, (hk.cell b _ hl hx).trans (hc i hi).2.1, (hk.cell b _ hl hx).trans (hc i hi).2.2⟩⟩⟩
theorem Eds.keptX {X : List Nat} {w w' : World} {A : Option Addr} {n : Nat} {es : List Sp.Ed} (h : Eds w A n es) (hk : Kept X w w') (hA : ∀ a, A = some a → a.block ∉ X) : Eds w' A n es :=
 ⟨h.1, fun hn => by
   obtain ⟨b, o, e, hl, hc⟩ := h.2 hn
   have hx := hA _ e
   exact ⟨b, o, e, Nat.lt_of_lt_of_le hl hk.size, fun i hi => ⟨(hk.cell b _ hl hx).trans (hc i hi).1, (hk.cell b _ hl hx).trans (hc i hi).2.1, (hk.cell b _ hl hx).trans (hc i hi).2.2.1, (hk.cell b _ hl hx).trans (hc i hi).2.2.2⟩⟩⟩
end Go.Df
namespace Go.Proofs.YtincpmdldpakkaaGreatDoor
open Go.RowKit Go.Df
attribute [local go_sem ↓] Go.wp_at_zero Go.wp_at_succ
end Go.Proofs.YtincpmdldpakkaaGreatDoor
namespace Go.Df
open Go.RowKit Go.Sort Go.Proofs
theorem flatK_list {α : Type} [Inhabited α] (enc : α → List Value) (k : Nat) (hk : ∀ x, (enc x).length = k) (l : List α) : (flatK enc k l.toArray).toList = l.flatMap enc := by
 have hlen : ∀ l : List α, (l.flatMap enc).length = l.length * k := by
   intro l
   induction l with
   | nil => simp
   | cons x l ih => rw [List.flatMap_cons, List.length_append, hk, ih, List.length_cons, Nat.succ_mul, Nat.add_comm]
 apply List.ext_getElem?
 intro j
 by_cases hj : j < l.length * k
 · have k0 : 0 < k := Nat.pos_of_ne_zero (by rintro rfl; simp at hj)
   have hi : j / k < l.length := (Nat.div_lt_iff_lt_mul k0).2 hj
   have hq : j % k < k := Nat.mod_lt _ k0
   have e : j / k * k + j % k = j := by rw [Nat.mul_comm]; exact Nat.div_add_mod j k
   have h1 := flat_at9 enc k hk l hi hq
   rw [e] at h1
   rw [h1]
   have hs : j < (flatK enc k l.toArray).size := by simpa using hj
   have h2 := get_flatK enc k l.toArray j (by simpa using hj)
   rw [getElem!_pos _ j hs] at h2
   rw [Array.getElem?_toList, Array.getElem?_eq_getElem hs, h2]
   have h4 : l.toArray[j / k]! = l[j / k] := by simp [hi]
   rw [h4]
   have h5 : j % k < (enc l[j / k]).length := by rw [hk]; exact hq
   simp [h5]
 · rw [List.getElem?_eq_none (by simp; omega), List.getElem?_eq_none (by rw [hlen]; omega)]
theorem heap_sortK {w : World} {g n off : Nat} {os : Array Obj} {cur : Array Value} {e : TypeId} {fr : Nat × Nat} (d : Array Value) (hb : w.heap[g]? = some (.cells cur e fr)) :
   (grow (putRow id (Sort.ahead w n) g off d) os).heap[g]? = some (.cells (putCells id off d cur) e fr) := by
 have hg : g < w.heap.size := (Array.getElem?_eq_some_iff.1 hb).1
 rw [heap_grow_old _ _ (by simpa using hg)]
 simp [putRow, mapBlock, Sort.ahead, Array.getElem?_modify, hb, onCells]
theorem grownBy_sortK {w : World} {g n off : Nat} {os : Array Obj} (d : Array Value) : w.grownBy (grow (putRow id (Sort.ahead w n) g off d) os) (some g) := by
 refine ⟨rfl, rfl, rfl, by simp, fun k hk hne => ?_⟩
 rw [heap_grow_old _ _ (by simpa using hk)]
 have : g ≠ k := fun e => hne (by rw [e])
 simp [putRow, mapBlock, Sort.ahead, Array.getElem?_modify, this]
theorem take_putK (cur : Array Value) (pre mid new : List Value) (h : cur.toList.take (pre.length + mid.length) = pre ++ mid) (hn : new.length = mid.length) : (putCells id pre.length new.toArray cur).toList.take (pre.length + mid.length) = pre ++ new := by
 have hsz : pre.length + mid.length ≤ cur.size := by
   have := congrArg List.length h
   simp at this
   omega
 apply List.ext_getElem?
 intro j
 by_cases hj : j < pre.length + mid.length
 · rw [List.getElem?_take_of_lt hj, Array.getElem?_toList]
   have h1 : (cur.toList.take (pre.length + mid.length))[j]? = (pre ++ mid)[j]? := by rw [h]
   rw [List.getElem?_take_of_lt hj, Array.getElem?_toList] at h1
   have hjc : j < cur.size := by omega
   by_cases hp : j < pre.length
   · rw [List.getElem?_append_left hp] at h1 ⊢
     rw [← h1]
     simp [putCells, hjc, show ¬ pre.length ≤ j by omega]
   · rw [List.getElem?_append_right (by omega)]
     have h2 : j - pre.length < new.length := by omega
     simp [putCells, hjc, show pre.length ≤ j by omega, show j < pre.length + new.length by omega, h2]
 · rw [List.getElem?_take_eq_none (by omega), List.getElem?_eq_none (by simp; omega)]
section
variable {α : Type} [Inhabited α] {enc : α → List Value} {k : Nat} {w : World} {base g m c : Nat} {e : TypeId} {pre : List Value} {ss ts : List α}
theorem own_holdsK (hk : ∀ x, (enc x).length = k) (h : w.ownsRow base e k (.slice (some ⟨g, 0, none⟩) m c) m (pre ++ ss.flatMap enc)) : HoldsK enc k w g pre.length ss.toArray ∧ g < w.heap.size := by
 rcases h.2 with ⟨h0, _⟩ | ⟨g', cap, cur, hv, hg, hh, hn, hcap, hcs, htk⟩
 · cases h0
 cases hv
 refine ⟨fun j hj => ?_, (Array.getElem?_eq_some_iff.1 hh).1⟩
 have hj9 : j < (ss.flatMap enc).length := by rw [← flatK_list enc k hk ss]; simpa using hj
 have h1 : (cur.toList.take (m * k))[pre.length + j]? = (pre ++ ss.flatMap enc)[pre.length + j]? := by rw [htk]
 have hl := h.1
 rw [List.length_append] at hl
 rw [List.getElem?_take_of_lt (by omega), List.getElem?_append_right (by omega), Nat.add_sub_cancel_left, Array.getElem?_toList, ← flatK_list enc k hk ss, Array.getElem?_toList] at h1
 refine ⟨?_, by simp [World.frozen?, hh]⟩
 simp only [World.cell?, hh]
 simp only [Option.isSome_none, Bool.false_eq_true, if_false]
 rw [h1, getElem!_pos _ j hj, Array.getElem?_eq_getElem hj]
 rfl
theorem own_sortK (hk : ∀ x, (enc x).length = k) (hl : ts.length = ss.length) (h : w.ownsRow base e k (.slice (some ⟨g, 0, none⟩) m c) m (pre ++ ss.flatMap enc)) (n : Nat) (os : Array Obj) :
   (sortWorldK enc k w g pre.length n ts.toArray os).ownsRow base e k (.slice (some ⟨g, 0, none⟩) m c) m (pre ++ ts.flatMap enc) ∧ Kept [g] w (sortWorldK enc k w g pre.length n ts.toArray os) := by
 have hlen : (ts.flatMap enc).length = (ss.flatMap enc).length := by
   rw [← flatK_list enc k hk ts, ← flatK_list enc k hk ss]
   simp [hl]
 unfold sortWorldK putRowK
 rcases h.2 with ⟨h0, _⟩ | ⟨g', cap, cur, hv, hg, hh, hn, hcap, hcs, htk⟩
 · cases h0
 cases hv
 have hl9 := h.1
 rw [List.length_append] at hl9
 refine ⟨⟨by rw [List.length_append, hlen]; exact hl9, .inr ⟨g, c, _, rfl, hg, heap_sortK _ hh, hn, hcap, by simpa [putCells] using hcs, ?_⟩⟩, ?_⟩
 · rw [← hl9] at htk ⊢
   rw [show flatK enc k ts.toArray = (ts.flatMap enc).toArray by rw [← flatK_list enc k hk ts]]
   exact take_putK cur pre _ _ htk hlen
 · have := kept_grown (grownBy_sortK (w := w) (g := g) (off := pre.length) (n := n) (os := os) (flatK enc k ts.toArray))
   simpa using this
end
end Go.Df
namespace Go.Proofs.YtincpmdldpakkaaGreatDoor
open Go.RowKit Go.Df Go.Df.Iv Go.Df.Sp Go.Sort
theorem jc_len (x : Jp) : (jc x).length = 6 := rfl
theorem jcmp_lays (blk off size : Nat) (w : World) : CmpLays Tryz.prog 53 #[] jc 6 jcmp blk off size w := fun m os dk _ x y => by
 refine (jcmp_any x y _).mono ?_
 rintro e w' ⟨rfl, q, os', rfl⟩
 exact ⟨rfl, q, os', rfl⟩
theorem sortJ_none (p : Option Addr) (cap : Nat) (fv : Value) (w : World) :
   Calls Tryz.prog 52 #[.slice p 0 cap, fv] w fun e w' => e = .returned (.tuple #[]) ∧ w' = w := AnyF.slices_SortFunc_none layJ p cap fv w
theorem sortJ_any {base g m c cap f0 : Nat} {e : TypeId} {P0 ss : List Jp} (w : World) (h : w.ownsRow base e 6 (.slice (some ⟨g, 0, none⟩) m c) m ((P0 ++ ss).flatMap jc)) (hP : P0.length = f0) (hs : ss.length ≤ 1000000) (n : Nat) (hn : ss.length = n) :
   Calls Tryz.prog 52 #[.slice (some ⟨g, f0 * 6, none⟩) n cap, .func (.func 53) #[] #[]] w fun e' w' => e' = .returned (.tuple #[]) ∧ ∃ ts : List Jp, PermIn 0 ss.toArray.size ss.toArray ts.toArray ∧ SortedIn jl 0 ss.toArray.size ts.toArray ∧ w'.ownsRow base e 6 (.slice (some ⟨g, 0, none⟩) m c) m ((P0 ++ ts).flatMap jc) ∧ Kept [g] w w' := by
 subst hn
 rw [List.flatMap_append] at h
 have hpl : (P0.flatMap jc).length = f0 * 6 := by
   rw [← flatK_list jc 6 jc_len P0]
   simp [hP]
 obtain ⟨hH, hg⟩ := own_holdsK jc_len h
 rw [hpl] at hH
 have eg : ∀ args w, (callFunc 53 args).run Tryz.prog w = .ok (.enter 53 args) w := enters_of Tryz.func53 (by kernel_rfl) rfl
 have hcon := AnyQ.slices_SortFunc layJ 6 Tryz.isAgg73 Tryz.sizeOf73 jc jc_len (fun x v hv => by unfold jc at hv; simp at hv; rcases hv with rfl | rfl | rfl | rfl | rfl | rfl <;> rfl) jcmp jcmp_swo 53 #[] g (f0 * 6) cap ss.toArray w eg (jcmp_lays g (f0 * 6) _ w) hH hg (by simp; omega)
 refine Calls.mono hcon ?_
 rintro e' w' ⟨rfl, d', n, os, hp, hso, rfl⟩
 have hd : d'.size = ss.toArray.size := hp.1
 obtain ⟨ts, rfl⟩ : ∃ ts : List Jp, d' = ts.toArray := ⟨d'.toList, by simp⟩
 have hl : ts.length = ss.length := by simpa using hd
 obtain ⟨h1, h2⟩ := own_sortK jc_len hl h n os
 rw [hpl] at h1 h2
 exact ⟨rfl, ts, hp, hso, by rw [List.flatMap_append]; exact h1, h2⟩
end Go.Proofs.YtincpmdldpakkaaGreatDoor
