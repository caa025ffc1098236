/- A flow function that has more pairs; solutions within one another. No program in sight. -/
import Derived.Test.YtffkikhknabddaaKv
import Derived.Test.YtffkikhknabddaaKw
namespace Go.Df
open Go.RowKit
/-- What a region that appends to a row of one's own keeps: all but the row; and the cells of three blocks, said at once. -/
abbrev SXw (X : List Nat) (ga gb gc : Nat) (W w' : World) : Prop := Kept X W w' ∧ (∀ o, w'.cell? ⟨ga, o, none⟩ = W.cell? ⟨ga, o, none⟩) ∧ (∀ o, w'.cell? ⟨gb, o, none⟩ = W.cell? ⟨gb, o, none⟩) ∧ (∀ o, w'.cell? ⟨gc, o, none⟩ = W.cell? ⟨gc, o, none⟩)
theorem SXw.of {X : List Nat} {ga gb gc : Nat} {W w' : World} (h : Kept X W w') (ha : ga < W.heap.size) (hb : gb < W.heap.size) (hc : gc < W.heap.size) (xa : ga ∉ X) (xb : gb ∉ X) (xc : gc ∉ X) : SXw X ga gb gc W w' := ⟨h, fun o => h.cell ga o ha xa, fun o => h.cell gb o hb xb, fun o => h.cell gc o hc xc⟩
namespace If
theorem prs1 (w : World) (xi xo : Int) (t : TypeId) (b : Nat) (hb : b = w.heap.size) : Prs (w.alloc (.cells #[.int .i64 xi, .int .i64 xo] t)) (some ⟨b, 0, none⟩) 1 [⟨xi, xo⟩] := by
  subst hb
  refine ⟨rfl, fun _ => ⟨_, 0, rfl, by simp, fun i hi => ?_⟩⟩
  obtain rfl : i = 0 := by omega
  exact ⟨by rw [World.cell?_alloc_new]; rfl, by rw [World.cell?_alloc_new]; rfl⟩
theorem Ok.flErr {p : Pb} (h : Ok p) (x : Nat) (hx : x < p.fl.length) : If.flErr p.F (gf p.fl x) = 0 := by
  have h1 := h.fl x hx
  rw [fl_end h.f1 h.f2 h1.1 h1.2.1, if_neg]
  rintro (h3 | h3)
  · have := h1.2.2.1; omega
  · exact h3 h1.2.2.2
theorem gfl_mk {n i : Nat} (h : i < n) (f : Nat → List Pr) : gf ((List.range n).map f) i = f i := by simp [gf, h]
/-- One flow function is another. -/
def swapFl (p : Pb) (m : Nat) (more : List Pr) : Pb := ⟨p.ns, p.es, p.mn, p.F, (List.range p.fl.length).map fun x => if x = m then more else gf p.fl x, p.sd⟩
theorem swap_err {p : Pb} (h : Ok p) {m : Nat} {more : List Pr} (hm : If.flErr p.F more = 0) : pbErr (swapFl p m more) = 0 := by
  refine pb_ok (p := swapFl p m more) h.sup (by show ¬ (p.F < 1 ∨ 1024 < p.F); have := h.f1; have := h.f2; omega) ?_ (fun x hx => ?_) h.sd
  · show ((List.range p.fl.length).map _).length = p.es.length
    rw [List.length_map, List.length_range]
    exact h.len
  · have hx' : x < p.fl.length := by
      have h9 : x < ((List.range p.fl.length).map fun x => if x = m then more else gf p.fl x).length := hx
      rw [List.length_map, List.length_range] at h9
      exact h9
    show If.flErr p.F (gf ((List.range p.fl.length).map fun x => if x = m then more else gf p.fl x) x) = 0
    rw [gfl_mk hx']
    split
    · exact hm
    · exact h.flErr x hx'
theorem swap_grow {p : Pb} (h : Ok p) {m : Nat} {more : List Pr} (hm : ∀ x ∈ gf p.fl m, x ∈ more) {a n d : Nat} (hp : PE p a n d) : PE (swapFl p m more) a n d := by
  refine PE.grow (p := p) (q := swapFl p m more) rfl rfl rfl rfl (fun k x hk hx => ?_) hp
  show x ∈ gf ((List.range p.fl.length).map fun x => if x = m then more else gf p.fl x) k
  rw [gfl_mk (by rw [h.len]; exact hk)]
  split
  · rename_i e; subst e; exact hm x hx
  · exact hx
open Classical in
theorem sol_within {p q : Pb} (hF : q.F = p.F) (hg : ∀ a n d, PE p a n d → PE q a n d) {N : Nat} :
    (∀ i, i < N → gbl ((List.range N).map (solR p)) i = true → holdsS ((List.range N).map (solR q)) ((List.range N).map (solF q)) i 0 = true) ∧
    (∀ i, i < N → ∀ x ∈ gil ((List.range N).map (solF p)) i, holdsS ((List.range N).map (solR q)) ((List.range N).map (solF q)) i x = true) := by
  refine ⟨fun i hi h => ?_, fun i hi x hx => ?_⟩
  · have e1 : gbl ((List.range N).map (solR p)) i = solR p i := by simp [gbl, hi]
    have e2 : gbl ((List.range N).map (solR q)) i = solR q i := by simp [gbl, hi]
    rw [e1] at h
    have h2 : PE p 0 i 0 := by unfold solR at h; exact of_decide_eq_true h
    unfold holdsS
    rw [if_neg (by omega), if_pos rfl, Int.toNat_natCast, e2]
    unfold solR
    simp [hi, hg _ _ _ h2]
  · have e1 : gil ((List.range N).map (solF p)) i = solF p i := by simp [gil, hi]
    have e2 : gil ((List.range N).map (solF q)) i = solF q i := by simp [gil, hi]
    rw [e1] at hx
    unfold solF ofNats at hx
    rw [List.mem_map] at hx
    obtain ⟨y, hy, rfl⟩ := hx
    simp at hy
    obtain ⟨hyF, hy0, a, ha⟩ := hy
    unfold holdsS
    rw [if_neg (by omega), if_neg (by simp; omega), Int.toNat_natCast, e2]
    have hm : (y : Int) ∈ solF q i := by
      unfold solF ofNats
      rw [List.mem_map]
      refine ⟨y, ?_, rfl⟩
      simp
      exact ⟨by omega, hy0, a, hg _ _ _ ha⟩
    simp [hi, hm]
end If
end Go.Df
