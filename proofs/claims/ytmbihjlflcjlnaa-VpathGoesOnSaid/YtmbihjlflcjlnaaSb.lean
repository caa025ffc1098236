/- Slices of nodes and edges that read as lists. No program in sight. -/
import Derived.Test.YtmbihjlflcjlnaaSp
namespace Go.Df
open Go.RowKit Sp
/-- The node, the edge at an index. (Names of their own, so that the walk's simp leaves them alone.) -/
def gn (ns : List Nd) (i : Nat) : Nd := ns.getD i ⟨0, 0, 0⟩
def ge (es : List Ed) (i : Nat) : Ed := es.getD i ⟨0, 0, 0, 0⟩
theorem gn_lt {ns : List Nd} {i : Nat} (h : i < ns.length) : gn ns i = ns[i] := by simp [gn, h]
theorem ge_lt {es : List Ed} {i : Nat} (h : i < es.length) : ge es i = es[i] := by simp [ge, h]
/-- A slice of nodes. -/
def Nds (w : World) (A : Option Addr) (n : Nat) (ns : List Nd) : Prop :=
  ns.length = n ∧ (0 < n → ∃ b o, A = some ⟨b, o, none⟩ ∧ b < w.heap.size ∧ ∀ i, i < n → w.cell? ⟨b, o + i * 3, none⟩ = some (.int .i64 (gn ns i).f) ∧ w.cell? ⟨b, o + i * 3 + 1, none⟩ = some (.int .i64 (gn ns i).k) ∧ w.cell? ⟨b, o + i * 3 + 2, none⟩ = some (.int .i64 (gn ns i).i))
/-- A slice of edges. -/
def Eds (w : World) (A : Option Addr) (n : Nat) (es : List Ed) : Prop :=
  es.length = n ∧ (0 < n → ∃ b o, A = some ⟨b, o, none⟩ ∧ b < w.heap.size ∧ ∀ i, i < n → w.cell? ⟨b, o + i * 4, none⟩ = some (.int .i64 (ge es i).a) ∧ w.cell? ⟨b, o + i * 4 + 1, none⟩ = some (.int .i64 (ge es i).b) ∧ w.cell? ⟨b, o + i * 4 + 2, none⟩ = some (.int .i64 (ge es i).k) ∧ w.cell? ⟨b, o + i * 4 + 3, none⟩ = some (.int .i64 (ge es i).c))
theorem Nds.later {w w' : World} {A : Option Addr} {n : Nat} {ns : List Nd} (h : Nds w A n ns) (hb : Below w.heap.size w w') : Nds w' A n ns :=
  ⟨h.1, fun hn => by
    obtain ⟨b, o, e, hl, hc⟩ := h.2 hn
    exact ⟨b, o, e, Nat.lt_of_lt_of_le hl hb.size, fun i hi => ⟨(hb.cell (p := ⟨b, _, none⟩) hl).trans (hc i hi).1, (hb.cell (p := ⟨b, _, none⟩) hl).trans (hc i hi).2.1, (hb.cell (p := ⟨b, _, none⟩) hl).trans (hc i hi).2.2⟩⟩⟩
theorem Eds.later {w w' : World} {A : Option Addr} {n : Nat} {es : List Ed} (h : Eds w A n es) (hb : Below w.heap.size w w') : Eds w' A n es :=
  ⟨h.1, fun hn => by
    obtain ⟨b, o, e, hl, hc⟩ := h.2 hn
    exact ⟨b, o, e, Nat.lt_of_lt_of_le hl hb.size, fun i hi => ⟨(hb.cell (p := ⟨b, _, none⟩) hl).trans (hc i hi).1, (hb.cell (p := ⟨b, _, none⟩) hl).trans (hc i hi).2.1, (hb.cell (p := ⟨b, _, none⟩) hl).trans (hc i hi).2.2.1, (hb.cell (p := ⟨b, _, none⟩) hl).trans (hc i hi).2.2.2⟩⟩⟩
theorem Kept.toBelow {w w' : World} (h : Kept [] w w') : Below w.heap.size w w' := ⟨h.os, h.tape, h.output, h.size, fun k hk => h.block k hk (by simp)⟩
theorem Nds.kept {w w' : World} {A : Option Addr} {n : Nat} {ns : List Nd} (h : Nds w A n ns) (hk : Kept [] w w') : Nds w' A n ns := h.later hk.toBelow
theorem Eds.kept {w w' : World} {A : Option Addr} {n : Nat} {es : List Ed} (h : Eds w A n es) (hk : Kept [] w w') : Eds w' A n es := h.later hk.toBelow
/-- A supergraph in memory: its three values. -/
structure Sup (w : World) (A1 : Option Addr) (n1 c1 : Nat) (A2 : Option Addr) (n2 c2 : Nat) (ns : List Nd) (es : List Ed) : Prop where
  nd : Nds w A1 n1 ns
  ed : Eds w A2 n2 es
  b1 : n1 ≤ c1 ∧ c1 ≤ 9223372036854775807
  b2 : n2 ≤ c2 ∧ c2 ≤ 9223372036854775807
theorem Sup.later {w w' : World} {A1 A2 : Option Addr} {n1 c1 n2 c2 : Nat} {ns : List Nd} {es : List Ed} (h : Sup w A1 n1 c1 A2 n2 c2 ns es) (hb : Below w.heap.size w w') : Sup w' A1 n1 c1 A2 n2 c2 ns es := ⟨h.nd.later hb, h.ed.later hb, h.b1, h.b2⟩
theorem Sup.kept {w w' : World} {A1 A2 : Option Addr} {n1 c1 n2 c2 : Nat} {ns : List Nd} {es : List Ed} (h : Sup w A1 n1 c1 A2 n2 c2 ns es) (hk : Kept [] w w') : Sup w' A1 n1 c1 A2 n2 c2 ns es := h.later hk.toBelow
namespace Sp
/-- The first node of function f of kind k from place i on (n nodes), or -1. -/
def kindAt (ns : List Nd) (f k : Int) : Int := match ns.findIdx? (fun n => n.f == f && n.k == k) with | some i => (i : Int) | none => -1
theorem kind_hit {ns : List Nd} {f k : Int} {i : Nat} (h : ∀ j, j < i → ((gn ns j).f == f && (gn ns j).k == k) = false) (hi : i < ns.length) (e : ((gn ns i).f == f && (gn ns i).k == k) = true) : kindAt ns f k = i := by
  unfold kindAt
  have : ns.findIdx? (fun n => n.f == f && n.k == k) = some i := by
    rw [List.findIdx?_eq_some_iff_getElem]
    refine ⟨hi, by rw [gn_lt hi] at e; exact e, fun j hj => ?_⟩
    have := h j hj
    rw [gn_lt (by omega)] at this
    simp [this]
  rw [this]
theorem kind_miss {ns : List Nd} {f k : Int} (h : ∀ j, j < ns.length → ((gn ns j).f == f && (gn ns j).k == k) = false) : kindAt ns f k = -1 := by
  unfold kindAt
  have : ns.findIdx? (fun n => n.f == f && n.k == k) = none := by
    rw [List.findIdx?_eq_none_iff]
    intro x hx
    obtain ⟨j, hj, rfl⟩ := List.getElem_of_mem hx
    have := h j hj
    rwa [gn_lt hj] at this
  rw [this]
end Sp
end Go.Df
