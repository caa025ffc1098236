/- Texts: Tb Tf Aw Az Hs Tg Ai. -/
import Derived.Test.YtincpmdldpakkaaDoorCi02
import Derived.Test.YtincpmdldpakkaaDoorCi11
import Derived.Test.YtincpmdldpakkaaDoorCi09
import Derived.Test.YtincpmdldpakkaaDoorCi32
import Derived.Test.YtincpmdldpakkaaDoorCi33
import Derived.Test.YtincpmdldpakkaaDoorCi25
namespace Go.Df
open Go.RowKit
theorem flat_len9 {α : Type} (f : α → List Value) (k : Nat) (hk : ∀ x, (f x).length = k) : ∀ l : List α, (l.flatMap f).length = l.length * k
 | [] => by simp
 | x :: l => by rw [List.flatMap_cons, List.length_append, hk, flat_len9 f k hk l, List.length_cons, Nat.succ_mul]; omega
theorem flat_at9 {α : Type} (f : α → List Value) (k : Nat) (hk : ∀ x, (f x).length = k) : ∀ (l : List α) {i q : Nat} (hi : i < l.length) (_ : q < k), (l.flatMap f)[i * k + q]? = (f l[i])[q]?
 | x :: l, 0, q, _, hq => by
   rw [List.flatMap_cons, Nat.zero_mul, Nat.zero_add, List.getElem?_append_left (by rw [hk]; exact hq)]; rfl
 | x :: l, i + 1, q, hi, hq => by
   have h1 := flat_at9 f k hk l (i := i) (q := q) (by simpa using hi) hq
   rw [List.flatMap_cons, List.getElem?_append_right (by rw [hk, Nat.succ_mul]; omega), hk, show (i + 1) * k + q - k = i * k + q by rw [Nat.succ_mul]; omega, h1]
   rfl
def ndc (x : Sp.Nd) : List Value := [.int .i64 x.f, .int .i64 x.k, .int .i64 x.i]
def edc (x : Sp.Ed) : List Value := [.int .i64 x.a, .int .i64 x.b, .int .i64 x.k, .int .i64 x.c]
theorem Nds.rd {w : World} {A : Option Addr} {n : Nat} {ns : List Sp.Nd} (h : Nds w A n ns) : Rd w 3 A n (ns.flatMap ndc) := by
 refine ⟨by rw [flat_len9 ndc 3 (fun _ => rfl), h.1], fun hn => ?_⟩
 obtain ⟨b, o, e, hl, hc⟩ := h.2 hn
 refine ⟨b, o, e, hl, fun j hj => ?_⟩
 obtain ⟨i, q, rfl, hq⟩ : ∃ i q, j = i * 3 + q ∧ q < 3 := ⟨j / 3, j % 3, by omega, by omega⟩
 have hi : i < n := by omega
 have hi' : i < ns.length := by rw [h.1]; exact hi
 have h9 := hc i hi
 rw [flat_at9 ndc 3 (fun _ => rfl) ns hi' hq]
 rw [gn_lt hi'] at h9
 match q, hq with
 | 0, _ => exact h9.1
 | 1, _ => exact h9.2.1
 | 2, _ => exact h9.2.2
theorem Nds.own {w : World} {base : Nat} {e : TypeId} {A : Option Addr} {n c : Nat} {l : List Sp.Nd} (h : w.ownsRow base e 3 (.slice A n c) n (l.flatMap ndc)) (hl : l.length = n) : Nds w A n l := by
 refine ⟨hl, fun h0 => ?_⟩
 obtain ⟨g, c', hv, hb, hg, hc, -, hcell, -⟩ := own_cellsT h h0
 injection hv with e1 e2 e3
 subst e1
 refine ⟨g, 0, rfl, hg, fun i hi => ?_⟩
 have hi' : i < l.length := by omega
 have k : ∀ q, q < 3 → w.cell? ⟨g, i * 3 + q, none⟩ = (ndc l[i])[q]? := fun q hq => (hcell _ (by omega)).trans (flat_at9 ndc 3 (fun _ => rfl) l hi' hq)
 rw [gn_lt hi', Nat.zero_add]
 exact ⟨k 0 (by omega), k 1 (by omega), k 2 (by omega)⟩
theorem Eds.rd {w : World} {A : Option Addr} {n : Nat} {es : List Sp.Ed} (h : Eds w A n es) : Rd w 4 A n (es.flatMap edc) := by
 refine ⟨by rw [flat_len9 edc 4 (fun _ => rfl), h.1], fun hn => ?_⟩
 obtain ⟨b, o, e, hl, hc⟩ := h.2 hn
 refine ⟨b, o, e, hl, fun j hj => ?_⟩
 obtain ⟨i, q, rfl, hq⟩ : ∃ i q, j = i * 4 + q ∧ q < 4 := ⟨j / 4, j % 4, by omega, by omega⟩
 have hi : i < n := by omega
 have hi' : i < es.length := by rw [h.1]; exact hi
 have h9 := hc i hi
 rw [flat_at9 edc 4 (fun _ => rfl) es hi' hq]
 rw [ge_lt hi'] at h9
 match q, hq with
 | 0, _ => exact h9.1
 | 1, _ => exact h9.2.1
 | 2, _ => exact h9.2.2.1
 | 3, _ => exact h9.2.2.2
theorem Eds.own {w : World} {base : Nat} {e : TypeId} {A : Option Addr} {n c : Nat} {l : List Sp.Ed} (h : w.ownsRow base e 4 (.slice A n c) n (l.flatMap edc)) (hl : l.length = n) : Eds w A n l := by
 refine ⟨hl, fun h0 => ?_⟩
 obtain ⟨g, c', hv, hb, hg, hc, -, hcell, -⟩ := own_cellsT h h0
 injection hv with e1 e2 e3
 subst e1
 refine ⟨g, 0, rfl, hg, fun i hi => ?_⟩
 have hi' : i < l.length := by omega
 have k : ∀ q, q < 4 → w.cell? ⟨g, i * 4 + q, none⟩ = (edc l[i])[q]? := fun q hq => (hcell _ (by omega)).trans (flat_at9 edc 4 (fun _ => rfl) l hi' hq)
 rw [ge_lt hi', Nat.zero_add]
 exact ⟨k 0 (by omega), k 1 (by omega), k 2 (by omega), k 3 (by omega)⟩
theorem Nds.keptX {X : List Nat} {w w' : World} {A : Option Addr} {n : Nat} {ns : List Sp.Nd} (h : Nds w A n ns) (hk : Kept X w w') (hA : ∀ a, A = some a → a.block ∉ X) : Nds w' A n ns :=
 ⟨h.1, fun hn => by
   obtain ⟨b, o, e, hl, hc⟩ := h.2 hn
   have hx := hA _ e
   exact ⟨b, o, e, Nat.lt_of_lt_of_le hl hk.size, fun i hi => ⟨(hk.cell b _ hl hx).trans (hc i hi).1, (hk.cell b _ hl hx).trans (hc i hi).2.1, (hk.cell b _ hl hx).trans (hc i hi).2.2⟩⟩⟩
theorem Eds.keptX {X : List Nat} {w w' : World} {A : Option Addr} {n : Nat} {es : List Sp.Ed} (h : Eds w A n es) (hk : Kept X w w') (hA : ∀ a, A = some a → a.block ∉ X) : Eds w' A n es :=
 ⟨h.1, fun hn => by
   obtain ⟨b, o, e, hl, hc⟩ := h.2 hn
   have hx := hA _ e
   exact ⟨b, o, e, Nat.lt_of_lt_of_le hl hk.size, fun i hi => ⟨(hk.cell b _ hl hx).trans (hc i hi).1, (hk.cell b _ hl hx).trans (hc i hi).2.1, (hk.cell b _ hl hx).trans (hc i hi).2.2.1, (hk.cell b _ hl hx).trans (hc i hi).2.2.2⟩⟩⟩
end Go.Df
namespace Go.Proofs.YtincpmdldpakkaaDoor
open Go.RowKit Go.Df
attribute [local go_sem ↓] Go.wp_at_zero Go.wp_at_succ
end Go.Proofs.YtincpmdldpakkaaDoor
namespace Go.Df
open Go.RowKit
namespace If
open Sp
open Classical in
theorem holds_iff {p : Pb} (ho : Ok p) {N : Nat} {n d : Nat} (hn : n < N) : holdsS ((List.range N).map (solR p)) ((List.range N).map (solF p)) (n : Int) (d : Int) = decide (∃ a, PE p a n d) := by
 rw [Bool.eq_iff_iff, decide_eq_true_iff]
 unfold holdsS
 rw [if_neg (by omega), Int.toNat_natCast]
 by_cases e : d = 0
 · subst e
   rw [if_pos (show ((0 : Nat) : Int) = 0 from rfl)]
   have e1 : gbl ((List.range N).map (solR p)) n = solR p n := by simp [gbl, hn]
   rw [e1]
   simp only [List.length_map, List.length_range, hn, decide_true, Bool.true_and]
   unfold solR
   rw [decide_eq_true_iff]
   exact ⟨fun h => ⟨0, h⟩, fun ⟨a, h⟩ => h.zero ho⟩
 · rw [if_neg (by omega)]
   have e1 : gil ((List.range N).map (solF p)) n = solF p n := by simp [gil, hn]
   rw [e1]
   simp only [List.length_map, List.length_range, hn, decide_true, Bool.true_and, decide_eq_true_iff]
   unfold solF ofNats
   rw [List.mem_map]
   constructor
   · rintro ⟨x, hx, hd⟩
     rw [List.mem_filter, Bool.and_eq_true] at hx
     obtain rfl : x = d := by omega
     exact of_decide_eq_true hx.2.2
   · rintro ⟨a, ha⟩
     have hr := ha.rng ho
     refine ⟨d, ?_, rfl⟩
     rw [List.mem_filter, List.mem_range, Bool.and_eq_true]
     exact ⟨by omega, by simpa using e, decide_eq_true ⟨a, ha⟩⟩
open Classical in
theorem holds_t {p : Pb} (ho : Ok p) {N : Nat} {n d : Nat} (hn : n < N) (h : ∃ a, PE p a n d) : holdsS ((List.range N).map (solR p)) ((List.range N).map (solF p)) (n : Int) (d : Int) = true := (holds_iff ho hn).trans (decide_eq_true h)
open Classical in
theorem holds_f {p : Pb} (ho : Ok p) {N : Nat} {n d : Nat} (hn : n < N) (h : ¬ ∃ a, PE p a n d) : holdsS ((List.range N).map (solR p)) ((List.range N).map (solF p)) (n : Int) (d : Int) = false := (holds_iff ho hn).trans (decide_eq_false h)
end If
namespace Iv
open Sp
def xOf (q : If.Pr) : Xp := ⟨q.i, q.o, 2, 0, 0⟩
def vOf (s : If.Sd) : Vs := ⟨s.n, s.f, 2, 0⟩
def vP (q : If.Pb) : Vb := ⟨q.ns, q.es, q.mn, q.F, q.fl.map (List.map xOf), q.sd.map vOf⟩
theorem pf_vP (q : If.Pb) : pf (vP q) = q := by
 unfold pf vP
 simp [xOf, vOf, Function.comp_def]
theorem vP_gl (q : If.Pb) (k : Nat) : gl (vP q).fl k = (If.gf q.fl k).map xOf := by
 show gl (q.fl.map (List.map xOf)) k = _
 unfold gl If.gf
 rw [List.getD_eq_getElem?_getD, List.getD_eq_getElem?_getD, List.getElem?_map]
 cases q.fl[k]? <;> rfl
theorem gx_map {l : List If.Pr} {j : Nat} (h : j < l.length) : gx (l.map xOf) j = xOf (If.gp l j) := by
 rw [gx_lt (by simpa using h), If.gp_lt h, List.getElem_map]
theorem gs_map {l : List If.Sd} {j : Nat} (h : j < l.length) : gs (l.map vOf) j = vOf (If.gd l j) := by
 rw [gs_lt (by simpa using h), If.gd_lt h, List.getElem_map]
theorem vP_err {q : If.Pb} (h : If.pbErr q = 0) : vErr (vP q) = 0 := by
 have ho := If.ok_of h
 unfold vErr ideErr
 have hp : ∀ i, i < q.fl.length → pairsErr q.F (gl (vP q).fl i) = 0 := fun i hi => by
   rw [vP_gl]
   have h1 := ho.fl i hi
   have hl : ((If.gf q.fl i).map xOf).length = (If.gf q.fl i).length := List.length_map ..
   rw [pairs_end (by rw [hl]; exact h1.1) (fun j hj => ?_), if_neg]
   · rw [not_or, hl, Classical.not_not, gx_map h1.2.2.1, h1.2.2.2]
     exact ⟨by omega, rfl⟩
   · rw [hl] at hj
     have h2 := h1.2.1 j hj
     unfold If.prErr at h2
     unfold pairErr
     rw [gx_map hj]
     split at h2
     · cases h2
     · rename_i h3
       split at h2
       · cases h2
       · rename_i h4
         refine (if_neg h3).trans ((if_neg (fun h9 => h4 ⟨h9.1, ?_⟩)).trans (by decide : xerr 2 0 0 = 0))
         have h8 := h9.2
         rw [gx_map (show j - 1 < _ by omega)] at h8
         exact h8
 have hs : ∀ j, j < q.sd.length → seedErr (vP q).ns.length (vP q).F (vP q).sd j = 0 := fun j hj => by
   have h2 := ho.sd j hj
   show seedErr q.ns.length q.F (q.sd.map vOf) j = 0
   unfold If.sdErr at h2
   unfold seedErr
   rw [gs_map hj]
   split at h2
   · cases h2
   · rename_i h3
     split at h2
     · cases h2
     · rename_i h4
       refine (if_neg h3).trans ((if_neg (by show ¬ verr 2 0 ≠ 0; decide)).trans (if_neg (fun h9 => h4 ⟨h9.1, ?_⟩)))
       have h8 := h9.2
       rw [gs_map (show j - 1 < _ by omega)] at h8
       exact h8
 have h4 : fe (fun i => pairsErr (vP q).F (gl (vP q).fl i)) 0 (vP q).fl.length = 0 := fe_ok _ 0 (fun i _ hi => hp i (by have e : (vP q).fl.length = q.fl.length := List.length_map ..; omega))
 rw [if_neg (not_not_intro (show superErr (vP q).ns (vP q).es (vP q).mn = 0 from ho.sup)), if_neg (show ¬ ((vP q).F < 1 ∨ 1024 < (vP q).F) by have := ho.f1; have := ho.f2; show ¬ (q.F < 1 ∨ 1024 < q.F); omega), if_neg (not_not_intro (show (vP q).fl.length = (vP q).es.length by rw [show (vP q).fl.length = q.fl.length from List.length_map ..]; exact ho.len)), if_neg (not_not_intro h4)]
 exact fe_ok _ 0 (fun j _ hj => hs j (by have e : (vP q).sd.length = q.sd.length := List.length_map ..; omega))
theorem vP_fit (q : If.Pb) : VFit (vP q) := by
 refine ⟨fun k x hx => ?_, fun s hs => ?_⟩
 · rw [vP_gl] at hx
   obtain ⟨y, -, rfl⟩ := List.mem_map.1 hx
   exact ⟨IntWalk.wrap64_in 0 (by omega), IntWalk.wrap64_in 0 (by omega)⟩
 · obtain ⟨y, -, rfl⟩ := List.mem_map.1 (show s ∈ q.sd.map vOf from hs)
   exact IntWalk.wrap64_in 0 (by omega)
theorem vP_plain (q : If.Pb) : Plain (vP q) := fun k _ x hx => by
 rw [vP_gl] at hx
 obtain ⟨y, -, rfl⟩ := List.mem_map.1 hx
 exact Subtype.ext (xd_is (by show xerr 2 0 0 = 0; decide) (by show wrap64 0 = 0; decide +kernel) (by show wrap64 0 = 0; decide +kernel))
theorem vP_sol {q : If.Pb} (h : If.pbErr q = 0) {S : Nat → Nat → U} (hS : IsSol (vP q) S) {n d : Nat} (hn : n < q.ns.length) (hd : d < q.F.toNat) : ((∃ a, If.PE q a n d) → S n d = botV) ∧ ((¬ ∃ a, If.PE q a n d) → S n d = topV) := by
 have h1 := sol_plain (vok_of (vP_err h)) (vP_plain q) (fun s hs => by obtain ⟨y, -, rfl⟩ := List.mem_map.1 (show s ∈ q.sd.map vOf from hs); rfl) hS (n := n) (d := d) hn hd
 rw [pf_vP] at h1
 exact h1
def xc (q : If.Pr) : List Value := [.int .i64 q.i, .int .i64 q.o, .int .i64 2, .int .i64 0, .int .i64 0]
def vc (s : If.Sd) : List Value := [.int .i64 s.n, .int .i64 s.f, .int .i64 2, .int .i64 0]
theorem xps_own {w : World} {base : Nat} {e : TypeId} {A : Option Addr} {n c : Nat} {l : List If.Pr} (h : w.ownsRow base e 5 (.slice A n c) n (l.flatMap xc)) (hl : l.length = n) : Xps w A n (l.map xOf) ∧ n ≤ c := by
 by_cases h0 : 0 < n
 · obtain ⟨g, c', hv, hb, hg, hc, -, hcell, -⟩ := own_cellsT h h0
   injection hv with e1 e2 e3
   subst e1
   subst e3
   refine ⟨⟨by simpa using hl, fun _ => ⟨g, 0, rfl, hg, fun i hi => ?_⟩⟩, hc⟩
   have hi' : i < l.length := by omega
   have k : ∀ q, q < 5 → w.cell? ⟨g, i * 5 + q, none⟩ = (xc l[i])[q]? := fun q hq => (hcell _ (by omega)).trans (flat_at9 xc 5 (fun _ => rfl) l hi' hq)
   rw [gx_map hi', If.gp_lt hi', Nat.zero_add]
   exact ⟨k 0 (by omega), k 1 (by omega), k 2 (by omega), k 3 (by omega), k 4 (by omega)⟩
 · exact ⟨⟨by simpa using hl, fun h => absurd h h0⟩, by omega⟩
theorem vss_own {w : World} {base : Nat} {e : TypeId} {A : Option Addr} {n c : Nat} {l : List If.Sd} (h : w.ownsRow base e 4 (.slice A n c) n (l.flatMap vc)) (hl : l.length = n) : Vss w A n (l.map vOf) := by
 refine ⟨by simpa using hl, fun h0 => ?_⟩
 obtain ⟨g, c', hv, hb, hg, hc, -, hcell, -⟩ := own_cellsT h h0
 injection hv with e1 e2 e3
 subst e1
 refine ⟨g, 0, rfl, hg, fun i hi => ?_⟩
 have hi' : i < l.length := by omega
 have k : ∀ q, q < 4 → w.cell? ⟨g, i * 4 + q, none⟩ = (vc l[i])[q]? := fun q hq => (hcell _ (by omega)).trans (flat_at9 vc 4 (fun _ => rfl) l hi' hq)
 rw [gs_map hi', If.gd_lt hi', Nat.zero_add]
 exact ⟨k 0 (by omega), k 1 (by omega), k 2 (by omega), k 3 (by omega)⟩
theorem flat_snoc {α : Type} (f : α → List Value) (l : List α) (x : α) : l.flatMap f ++ f x = (l ++ [x]).flatMap f := by simp
theorem xps_keptT {X : List Nat} {w w' : World} {A : Option Addr} {m : Nat} {l : List Xp} (h : Xps w A m l) (hk : Kept X w w') (hA : ∀ a, A = some a → a.block ∉ X) : Xps w' A m l :=
 ⟨h.1, fun hn => by
   obtain ⟨b, o, e, hl, hc⟩ := h.2 hn
   have hx := hA _ e
   exact ⟨b, o, e, Nat.lt_of_lt_of_le hl hk.size, fun i hi => ⟨(hk.cell b _ hl hx).trans (hc i hi).1, (hk.cell b _ hl hx).trans (hc i hi).2.1, (hk.cell b _ hl hx).trans (hc i hi).2.2.1, (hk.cell b _ hl hx).trans (hc i hi).2.2.2.1, (hk.cell b _ hl hx).trans (hc i hi).2.2.2.2⟩⟩⟩
def RwX (base : Nat) (ti : TypeId) (R : Nat → Option Addr × Nat × Nat) (L : Nat → List Xp) (n : Nat) (w : World) : Prop :=
 ∀ x, x < n → Xps w (R x).1 (R x).2.1 (L x) ∧ (R x).2.1 ≤ (R x).2.2 ∧ ∀ a, (R x).1 = some a → base ≤ a.block ∧ Tag w a.block ti
theorem RwX.kept {base : Nat} {ti : TypeId} {R : Nat → Option Addr × Nat × Nat} {L : Nat → List Xp} {n : Nat} {X : List Nat} {w w' : World} (h : RwX base ti R L n w) (hk : Kept X w w') (hX : ∀ b, Tag w b ti → base ≤ b → b ∉ X) : RwX base ti R L n w' := fun x hx => by
 obtain ⟨h1, h2, h3⟩ := h x hx
 exact ⟨xps_keptT h1 hk (fun a ha => hX _ (h3 a ha).2 (h3 a ha).1), h2, fun a ha => ⟨(h3 a ha).1, (h3 a ha).2.same (hk.block _ (h3 a ha).2.lt (hX _ (h3 a ha).2 (h3 a ha).1))⟩⟩
theorem RwX.snoc {base : Nat} {ti : TypeId} {R : Nat → Option Addr × Nat × Nat} {L : Nat → List Xp} {n : Nat} {w : World} (h : RwX base ti R L n w) {A : Option Addr} {m c : Nat} (hA : Xps w A m (L n)) (hm : m ≤ c) (ha : ∀ a, A = some a → base ≤ a.block ∧ Tag w a.block ti) : RwX base ti (If.updP R n (A, m, c)) L (n + 1) w := fun x hx => by
 unfold If.updP
 by_cases e : x = n
 · subst e; rw [if_pos rfl]; exact ⟨hA, hm, ha⟩
 · rw [if_neg e]; exact h x (by omega)
theorem RwX.fls {base : Nat} {ti e : TypeId} {R : Nat → Option Addr × Nat × Nat} {L : Nat → List Xp} {n c : Nat} {A : Option Addr} {w : World} (h : RwX base ti R L n w) (ho : w.ownsRow base e 1 (.slice A n c) n (If.rowsP R n)) : Fls w A n ((List.range n).map L) ∧ ∀ b o i A' m c', A = some ⟨b, o, none⟩ → i < n → w.cell? ⟨b, o + i, none⟩ = some (.slice A' m c') → m ≤ c' := by
 by_cases h0 : 0 < n
 · obtain ⟨g, c', hv, hb, hg, hc, -, hcell, -⟩ := own_cellsT ho h0
   injection hv with e1 e2 e3
   subst e1
   subst e3
   have hrow : ∀ i, i < n → w.cell? ⟨g, i, none⟩ = some (.slice (R i).1 (R i).2.1 (R i).2.2) := fun i hi => by
     rw [hcell _ (by omega)]
     simp [If.rowsP, hi]
   refine ⟨⟨by simp, fun _ => ⟨g, 0, rfl, hg, fun i hi => ⟨(R i).1, (R i).2.1, (R i).2.2, by rw [Nat.zero_add]; exact hrow i hi, ?_⟩⟩⟩, fun b o i A' m c9 e9 hi hc9 => ?_⟩
   · have e : gl ((List.range n).map L) i = L i := by simp [gl, hi]
     rw [e]
     exact (h i hi).1
   · injection e9 with e9
     injection e9 with e9 e8
     subst e9 e8
     rw [Nat.zero_add, hrow i hi] at hc9
     injection hc9 with hc9
     injection hc9 with x1 x2 x3
     have := (h i hi).2.1
     omega
 · exact ⟨⟨by simp, fun h => absurd h h0⟩, fun b o i _ _ _ _ hi => absurd hi (by omega)⟩
theorem vP_rows (q : If.Pb) {n m : Nat} (hn : q.fl.length = n) (hm : ∀ i, i < n → (If.gf q.fl i).length ≤ m) : (List.range n).map (fun i => ((If.gf q.fl i).take m).map xOf) = (vP q).fl := by
 subst hn
 refine List.ext_getElem (by simp [vP]) (fun i h1 h2 => ?_)
 have hi : i < q.fl.length := by simpa using h1
 have e : If.gf q.fl i = q.fl[i] := by simp [If.gf, hi]
 have h3 := hm i hi
 simp only [List.getElem_map, List.getElem_range, vP]
 rw [List.take_of_length_le h3, e]
end Iv
end Go.Df
namespace Go.Proofs.YtincpmdldpakkaaDoor
open Go.RowKit Go.Df Go.Df.Iv Go.Df.Sp
attribute [local go_sem ↓] Go.wp_at_zero Go.wp_at_succ
end Go.Proofs.YtincpmdldpakkaaDoor
namespace Go.Df
open Go.RowKit
namespace Iv
open Sp
theorem sum_const {α : Type} (c : Nat) : ∀ l : List α, (l.map fun _ => c).sum = l.length * c
 | [] => by simp
 | _ :: l => by
   have h := sum_const c l
   simp only [List.map_cons, List.sum_cons, h, List.length_cons, Nat.succ_mul]
   omega
theorem flat_len {α β : Type} (f : α → List β) (c : Nat) : ∀ l : List α, (∀ x ∈ l, (f x).length = c) → (l.flatMap f).length = l.length * c
 | [], _ => by simp
 | x :: l, h => by
   have h1 := flat_len f c l (fun y hy => h y (List.mem_cons_of_mem _ hy))
   have h2 := h x (by simp)
   simp only [List.flatMap_cons, List.length_append, h1, h2, List.length_cons, Nat.succ_mul]
   omega
theorem trip_len (N F : Nat) : (trip N F).length = N * (F * F) := by
 unfold trip
 rw [flat_len _ (F * F) _ (fun x _ => by rw [flat_len _ F _ (fun y _ => by simp)]; simp)]
 simp
theorem duo_len (N F : Nat) : (duo N F).length = N * F := by
 unfold duo
 rw [flat_len _ F _ (fun x _ => by simp)]
 simp
theorem mu_small {p : Vb} (h1 : p.ns.length ≤ 36) (h2 : p.F ≤ 6) : mu0 p ≤ 1000000 := by
 unfold mu0 muT muV
 rw [sum_const, sum_const, trip_len, duo_len]
 have hF : p.F.toNat ≤ 6 := by omega
 have a1 : stp top ≤ 10 := by decide
 have a2 : stpV topV ≤ 10 := by decide
 have b1 : p.F.toNat * p.F.toNat ≤ 6 * 6 := Nat.mul_le_mul hF hF
 have b2 : p.ns.length * (p.F.toNat * p.F.toNat) ≤ 36 * 36 := Nat.mul_le_mul h1 b1
 have b3 : p.ns.length * p.F.toNat ≤ 36 * 6 := Nat.mul_le_mul h1 hF
 have c1 := Nat.mul_le_mul b2 a1
 have c2 := Nat.mul_le_mul b3 a2
 omega
end Iv
end Go.Df
namespace Go.Proofs.YtincpmdldpakkaaDoor
open Go.RowKit Go.Df Go.Df.Iv Go.Df.Sp
end Go.Proofs.YtincpmdldpakkaaDoor
namespace Go.Df
open Go.RowKit
theorem Fls.row {w0 w : World} {A : Option Addr} {n : Nat} {ls : List (List Sp.Xp)} (h : Fls w0 A n ls) (hb : Below w0.heap.size w0 w) {j : Nat} (hj : j < n) :
   ∃ b o Ai ni ci, A = some ⟨b, o, none⟩ ∧ b < w0.heap.size ∧ w.cell? ⟨b, o + j, none⟩ = some (.slice Ai ni ci) ∧ Xps w0 Ai ni (Sp.gl ls j) := by
 obtain ⟨b, o, rfl, hl, hc⟩ := h.2 (by omega)
 obtain ⟨Ai, ni, ci, h1, h2⟩ := hc j hj
 exact ⟨b, o, Ai, ni, ci, rfl, hl, (hb.cell (p := ⟨b, _, none⟩) hl).trans h1, h2⟩
end Go.Df
namespace Go.Proofs.YtincpmdldpakkaaDoor
open Go.RowKit Go.Df Go.Df.Sp
attribute [local go_sem ↓] Go.wp_at_zero Go.wp_at_succ
end Go.Proofs.YtincpmdldpakkaaDoor
namespace Go.Proofs.YtincpmdldpakkaaDoor
open Go.RowKit Go.Df Go.Df.Sp
attribute [local go_sem ↓] Go.wp_at_zero Go.wp_at_succ
set_option maxRecDepth 100000 in
set_option maxHeartbeats 4000000 in
theorem small33r_any (A1 A2 A3 A4 : Option Addr) (n1 c1 n2 c2 n3 c3 n4 c4 : Nat) (mn F : Int) (ls : List (List Sp.Xp)) (w : World) (hf : Fls w A3 n3 ls) :
   Calls Tryd.prog 10 #[.agg #[.slice A1 n1 c1, .slice A2 n2 c2, .int .i64 mn, .int .i64 F, .slice A3 n3 c3, .slice A4 n4 c4]] w fun e w' => ∃ s, e = .returned (.bool s) ∧ (s = true → n1 ≤ 36 ∧ n3 ≤ 70 ∧ n4 ≤ 20 ∧ F ≤ 6 ∧ ∀ x, x < n3 → (Sp.gl ls x).length ≤ 24) ∧ Below w.heap.size w w' := by
 have HF := Lib.hid hf
 clear hf
 go_enter Tryd.func10, Tryd.ntmps10
 go_upto_region 1 with fail
 refine wp_named (fun W => ∃ b0, w.heap.size = b0 ∧ Blk W b0 [.slice A1 n1 c1, .slice A2 n2 c2, .int .i64 mn, .int .i64 F, .slice A3 n3 c3, .slice A4 n4 c4] ∧ Below w.heap.size w W) ⟨_, rfl, ?_, ?_⟩ ?_
 · exact Blk.new _ _ _ _ (by first | rfl | simp)
 · go_grown
 rintro W ⟨b0, e0, B0, hB⟩
 rw [e0]
 have G0 : w.heap.size ≤ b0 := by omega
 clear e0
 have ⟨L0, C0, F0⟩ := B0
 have hkW : Kept [] w W := (Kept.refl _ _).call hB
 by_cases t1 : 36 < n1
 · have d1 : decide ((36 : Int) < n1) = true := by simp; omega
   go_wp2_with fail
   go_ret
   first | exact ⟨false, rfl, (fun h => by cases h), hB⟩ | exact Or.inl ⟨rfl, hB⟩
 have d1 : decide ((36 : Int) < n1) = false := by simp; omega
 by_cases t2 : 70 < n2
 · have d2 : decide ((70 : Int) < n2) = true := by simp; omega
   go_wp2_with fail
   go_ret
   first | exact ⟨false, rfl, (fun h => by cases h), hB⟩ | exact Or.inl ⟨rfl, hB⟩
 have d2 : decide ((70 : Int) < n2) = false := by simp; omega
 by_cases t3 : 6 < F
 · have d3 : decide (6 < F) = true := by simpa using t3
   go_wp2_with fail
   go_ret
   first | exact ⟨false, rfl, (fun h => by cases h), hB⟩ | exact Or.inl ⟨rfl, hB⟩
 have d3 : decide (6 < F) = false := by simpa using t3
 by_cases t4 : 70 < n3
 · have d4 : decide ((70 : Int) < n3) = true := by simp; omega
   go_wp2_with fail
   go_ret
   first | exact ⟨false, rfl, (fun h => by cases h), hB⟩ | exact Or.inl ⟨rfl, hB⟩
 have d4 : decide ((70 : Int) < n3) = false := by simp; omega
 by_cases t5 : 20 < n4
 · have d5 : decide ((20 : Int) < n4) = true := by simp; omega
   go_wp2_with fail
   go_ret
   first | exact ⟨false, rfl, (fun h => by cases h), hB⟩ | exact Or.inl ⟨rfl, hB⟩
 have d5 : decide ((20 : Int) < n4) = false := by simp; omega
 go_wp2_with fail
 go_loopw [3] (fun i wr => ∃ j : Nat, j ≤ n3 ∧ i = .int .i64 j ∧ Kept [] W wr ∧ Hid (∀ x, x < j → (Sp.gl ls x).length ≤ 24)) (fun i _ => n3 - (intOf i).toNat)
 case atStart => exact ⟨0, Nat.zero_le _, rfl, Kept.refl _ _, Lib.hid (fun x hx => absurd hx (Nat.not_lt_zero x))⟩
 case round =>
   obtain ⟨j, hj, rfl, hkr, HSH⟩ := hrel
   have ⟨LR, CR, FR⟩ := hkr.blk (by simp) B0
   have hkwr : Kept [] w wr := keptTrans hkW hkr
   clear C0 F0
   by_cases hlt : j < n3
   · obtain ⟨b3, o3, Ai, ni, ci, rfl, hl3, hc3, hxp⟩ := HF.out.row hkwr.toBelow hlt
     have HXL := Lib.hid hxp.1
     clear hxp
     have hl3r : b3 < wr.heap.size := Nat.lt_of_lt_of_le hl3 hkwr.size
     have hj1 : (j : Int) < (n3 : Int) := by omega
     by_cases t6 : 24 < ni
     · have d6 : decide ((24 : Int) < ni) = true := by simp; omega
       go_wp2_with fail
       go_ret
       exact ⟨false, rfl, (fun h => by cases h), hkwr.toBelow⟩
     · have d6 : decide ((24 : Int) < ni) = false := by simp; omega
       go_wp2_with fail
       exact ⟨⟨j + 1, by omega, by go_num, hkr, Lib.hid (fun x hx => by
         by_cases e : x = j
         · subst e; rw [HXL.out]; omega
         · exact HSH.out x (by omega))⟩, by simp [intOf]; omega⟩
   · obtain rfl : j = n3 := by omega
     go_wp2_with fail
     go_ret
     exact ⟨true, rfl, fun _ => ⟨by omega, by omega, by omega, by omega, HSH.out⟩, hkwr.toBelow⟩
end Go.Proofs.YtincpmdldpakkaaDoor
namespace Go.Df
open Go.RowKit
namespace Iv
open Sp
def v1 : Vb := ⟨[⟨0, 1, -1⟩, ⟨0, 2, 0⟩, ⟨0, 2, 1⟩, ⟨0, 3, -1⟩, ⟨0, 4, -1⟩], [⟨0, 1, 1, -1⟩, ⟨1, 2, 1, -1⟩, ⟨2, 3, 1, -1⟩], 0, 2, [[⟨0, 0, 2, 0, 0⟩, ⟨0, 1, 1, 0, 5⟩], [⟨0, 0, 2, 0, 0⟩, ⟨1, 1, 2, 2, 0⟩], [⟨0, 0, 2, 0, 0⟩]], []⟩
theorem v1_err : vErr v1 = 0 := by decide
def k5 : D := ⟨⟨1, 0, 5⟩, by decide, by decide +kernel, by decide +kernel⟩
def k7 : D := ⟨⟨1, 0, 7⟩, by decide, by decide +kernel, by decide +kernel⟩
def s2 : D := ⟨⟨2, 2, 0⟩, by decide, by decide +kernel, by decide +kernel⟩
theorem v1_fit : VFit v1 := by
 refine ⟨fun k q hq => ?_, fun s hs => by cases hs⟩
 match k with
 | 0 =>
   have hq : q ∈ [(⟨0, 0, 2, 0, 0⟩ : Xp), ⟨0, 1, 1, 0, 5⟩] := hq
   simp at hq
   rcases hq with rfl | rfl <;> exact ⟨by decide +kernel, by decide +kernel⟩
 | 1 =>
   have hq : q ∈ [(⟨0, 0, 2, 0, 0⟩ : Xp), ⟨1, 1, 2, 2, 0⟩] := hq
   simp at hq
   rcases hq with rfl | rfl <;> exact ⟨by decide +kernel, by decide +kernel⟩
 | 2 =>
   have hq : q ∈ [(⟨0, 0, 2, 0, 0⟩ : Xp)] := hq
   simp at hq
   subst hq
   exact ⟨by decide +kernel, by decide +kernel⟩
 | _ + 3 => cases hq
theorem xd_zero : xd ⟨0, 0, 2, 0, 0⟩ = shift := Subtype.ext (xd_is (by decide) (by decide +kernel) (by decide +kernel))
theorem xd_five : xd ⟨0, 1, 1, 0, 5⟩ = k5 := Subtype.ext (xd_is (by decide) (by decide +kernel) (by decide +kernel))
theorem xd_two : xd ⟨1, 1, 2, 2, 0⟩ = s2 := Subtype.ext (xd_is (by decide) (by decide +kernel) (by decide +kernel))
def v1T (n a d : Nat) : D := if a ≠ 0 then top else match n, d with
 | 0, 0 => shift
 | 1, 0 => shift
 | 2, 0 => shift
 | 3, 0 => shift
 | 1, 1 => k5
 | 2, 1 => k7
 | _, _ => top
theorem v1T_no {n a d : Nat} (h : a ≠ 0) : v1T n a d = top := if_pos h
theorem c_shift : comp shift shift = shift := by decide +kernel
theorem c_five : comp shift k5 = k5 := by decide +kernel
theorem c_seven : comp k5 s2 = k7 := by decide +kernel
theorem v1_len : v1.es.length = 3 := rfl
theorem v1_clo : Clo v1 v1T := by
 have h0 : ∀ (T : D), le T (comp top (xd ⟨0, 0, 2, 0, 0⟩)) := fun T => by rw [top_comp]; exact le_top _
 refine ⟨le_refl _, (fun s hs => by cases hs), fun k hk _ q hq a => ?_, fun k hk h2 => ?_, fun c hc h2 => ?_⟩
 · rw [v1_len] at hk
   by_cases ha : a = 0
   · subst ha
     match k, hk with
     | 0, _ =>
       have hq : q ∈ [(⟨0, 0, 2, 0, 0⟩ : Xp), ⟨0, 1, 1, 0, 5⟩] := hq
       simp at hq
       rcases hq with rfl | rfl
       · rw [xd_zero]; show le shift (comp shift shift); rw [c_shift]; exact le_refl _
       · rw [xd_five]; show le k5 (comp shift k5); rw [c_five]; exact le_refl _
     | 1, _ =>
       have hq : q ∈ [(⟨0, 0, 2, 0, 0⟩ : Xp), ⟨1, 1, 2, 2, 0⟩] := hq
       simp at hq
       rcases hq with rfl | rfl
       · rw [xd_zero]; show le shift (comp shift shift); rw [c_shift]; exact le_refl _
       · rw [xd_two]; show le k7 (comp k5 s2); rw [c_seven]; exact le_refl _
     | 2, _ =>
       have hq : q ∈ [(⟨0, 0, 2, 0, 0⟩ : Xp)] := hq
       simp at hq
       subst hq
       rw [xd_zero]; show le shift (comp shift shift); rw [c_shift]; exact le_refl _
   · rw [v1T_no ha (n := (ge v1.es k).a.toNat), top_comp]
     exact le_top _
 · rw [v1_len] at hk
   match k, hk with
   | 0, _ => exact absurd h2 (by decide)
   | 1, _ => exact absurd h2 (by decide)
   | 2, _ => exact absurd h2 (by decide)
 · rw [v1_len] at hc
   match c, hc with
   | 0, _ => exact absurd h2 (by decide)
   | 1, _ => exact absurd h2 (by decide)
   | 2, _ => exact absurd h2 (by decide)
theorem v1_snd : Snd v1 v1T := fun U hU => by
 have h00 : le (U 0 0 0) shift := hU.main
 have f : ∀ k, k < 3 → (ge v1.es k).k = 1 → ∀ q ∈ gl v1.fl k, le (U (ge v1.es k).b.toNat 0 q.o.toNat) (comp (U (ge v1.es k).a.toNat 0 q.i.toNat) (xd q)) := fun k hk h q hq => hU.flow k hk (.inl h) q hq 0
 have h10 : le (U 1 0 0) shift := by
   have h1 := f 0 (by omega) rfl ⟨0, 0, 2, 0, 0⟩ (by show _ ∈ [(⟨0, 0, 2, 0, 0⟩ : Xp), ⟨0, 1, 1, 0, 5⟩]; simp)
   rw [xd_zero] at h1
   exact le_trans h1 (by have h2 := comp_mono h00 (le_refl shift); rw [c_shift] at h2; exact h2)
 have h11 : le (U 1 0 1) k5 := by
   have h1 := f 0 (by omega) rfl ⟨0, 1, 1, 0, 5⟩ (by show _ ∈ [(⟨0, 0, 2, 0, 0⟩ : Xp), ⟨0, 1, 1, 0, 5⟩]; simp)
   rw [xd_five] at h1
   exact le_trans h1 (by have h2 := comp_mono h00 (le_refl k5); rw [c_five] at h2; exact h2)
 have h20 : le (U 2 0 0) shift := by
   have h1 := f 1 (by omega) rfl ⟨0, 0, 2, 0, 0⟩ (by show _ ∈ [(⟨0, 0, 2, 0, 0⟩ : Xp), ⟨1, 1, 2, 2, 0⟩]; simp)
   rw [xd_zero] at h1
   exact le_trans h1 (by have h2 := comp_mono h10 (le_refl shift); rw [c_shift] at h2; exact h2)
 have h21 : le (U 2 0 1) k7 := by
   have h1 := f 1 (by omega) rfl ⟨1, 1, 2, 2, 0⟩ (by show _ ∈ [(⟨0, 0, 2, 0, 0⟩ : Xp), ⟨1, 1, 2, 2, 0⟩]; simp)
   rw [xd_two] at h1
   exact le_trans h1 (by have h2 := comp_mono h11 (le_refl s2); rw [c_seven] at h2; exact h2)
 have h30 : le (U 3 0 0) shift := by
   have h1 := f 2 (by omega) rfl ⟨0, 0, 2, 0, 0⟩ (by show _ ∈ [(⟨0, 0, 2, 0, 0⟩ : Xp)]; simp)
   rw [xd_zero] at h1
   exact le_trans h1 (by have h2 := comp_mono h20 (le_refl shift); rw [c_shift] at h2; exact h2)
 intro n a d
 unfold v1T
 split
 · exact le_top _
 · rename_i ha
   obtain rfl : a = 0 := Classical.not_not.mp ha
   split <;> first | exact h00 | exact h10 | exact h20 | exact h30 | exact h11 | exact h21 | exact le_top _
def v1V (n a : Nat) : U := if n = 0 ∧ a = 0 then botV else topV
theorem v1_vclo : VClo v1 v1T v1V := by
 refine ⟨leV_refl _, fun k hk h2 => ?_⟩
 rw [v1_len] at hk
 match k, hk with
 | 0, _ => exact absurd h2 (by decide)
 | 1, _ => exact absurd h2 (by decide)
 | 2, _ => exact absurd h2 (by decide)
theorem v1_vsnd : VSnd v1 v1T v1V := fun Y hY n a => by
 unfold v1V
 split
 · rename_i h; obtain ⟨rfl, rfl⟩ := h; exact hY.main
 · exact leV_top _
theorem v1_sol {S : Nat → Nat → U} (h : IsSol v1 S) {n d : Nat} (hn : n < 5) (hd : d < 2) : S n d = solV v1 v1T v1V n d := by
 refine h.eq ⟨v1T, v1V, v1_clo, v1_snd, v1_vclo, v1_vsnd, fun n d _ _ => solV_glb (fun a ha => v1T_no (by have : v1.F.toNat = 2 := rfl; omega))⟩ hn hd
theorem v1_21 : (solV v1 v1T v1V 2 1).1 = ⟨1, 7⟩ := by decide +kernel
theorem v1_30 : (solV v1 v1T v1V 3 0).1 = ⟨2, 0⟩ := by decide +kernel
theorem v1_31 : (solV v1 v1T v1V 3 1).1 = ⟨0, 0⟩ := by decide +kernel
theorem v1_40 : (solV v1 v1T v1V 4 0).1 = ⟨0, 0⟩ := by decide +kernel
end Iv
end Go.Df
