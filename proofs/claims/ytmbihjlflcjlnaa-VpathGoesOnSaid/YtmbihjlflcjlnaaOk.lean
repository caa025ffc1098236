/- Small words for rows that a call writes, on a seat without the solver. -/
import Derived.Test.YtmbihjlflcjlnaaOj
import Derived.Test.YtmbihjlflcjlnaaLf
namespace Go.Df
open Go.RowKit
def ofNats (l : List Nat) : List Int := l.map fun (x : Nat) => (x : Int)
theorem made_one (v : Value) (n : Nat) : madeCells #[v] n = (List.replicate n v).toArray := by
  apply Array.ext_getElem?
  intro j
  rcases Nat.lt_or_ge j n with h | h
  · simp [madeCells, h, Nat.mod_one]
  · simp [madeCells, h]
theorem ofNats_len (l : List Nat) : (ofNats l).length = l.length := by simp [ofNats]
/-- make, as an equation on its run. -/
theorem run_make1 {P : Program} {t e : TypeId} {i : TypeInfo} {z : Value} {bytes : Nat} (ht : P.underlying t = some (.slice e)) (hi : P.info? e = some i) (hz : i.zero = some z) (hsize : i.size = 1) (hby : i.bytes = bytes) (hzc : z.cells = #[z]) (n : Nat) (hbytes : bytes * n ≤ 281474976710656) (h63 : n ≤ 9223372036854775807) (M : Array Value) (hM : (List.replicate n z).toArray = M) (w : World) :
    (Instr.makeSlice t (.int .i64 (n : Int)) (.int .i64 (n : Int))).run P w = .ok (.slice (some ⟨w.heap.size, 0, none⟩) n n) (w.alloc (.cells M e)) := by
  subst hby
  have hrun := run_make (P := P) w t e i z ht hi hz .i64 .i64 (n : Int) (n : Int) (by omega) (Int.le_refl _) (by rw [← Int.natCast_mul]; omega) (by omega)
  simp only [Int.toNat_natCast, hsize, Nat.mul_one, hzc, made_one, hM] at hrun
  exact hrun
/-- The world is named, whatever follows. -/
theorem act_named {F : Act → World → Prop} {a : Act} {w : World} (S : World → Prop) (h0 : S w) (h : ∀ W, S W → F a W) : F a w := h w h0
theorem rep_at {n i : Nat} {v : Value} (h : i < n) : (List.replicate n v).toArray[i]? = some v := by simp [h]
abbrev SXt (X : List Nat) (ga gb gc : Nat) (W w' : World) : Prop := Kept X W w' ∧ (∀ o, w'.cell? ⟨ga, o, none⟩ = W.cell? ⟨ga, o, none⟩) ∧ (∀ o, w'.cell? ⟨gb, o, none⟩ = W.cell? ⟨gb, o, none⟩) ∧ (∀ o, w'.cell? ⟨gc, o, none⟩ = W.cell? ⟨gc, o, none⟩)
theorem SXt.of {X : List Nat} {ga gb gc : Nat} {W w' : World} (h : Kept X W w') (ha : ga < W.heap.size) (hb : gb < W.heap.size) (hc : gc < W.heap.size) (xa : ga ∉ X) (xb : gb ∉ X) (xc : gc ∉ X) : SXt X ga gb gc W w' := ⟨h, fun o => h.cell ga o ha xa, fun o => h.cell gb o hb xb, fun o => h.cell gc o hc xc⟩
theorem filter_one {f : Nat → Bool} (k : Nat) : (List.range (k + 1)).filter f = if f k = true then (List.range k).filter f ++ [k] else (List.range k).filter f := by
  rw [List.range_succ, List.filter_append]
  by_cases h : f k = true
  · simp [h]
  · simp [h]
theorem ofNats_snoc (l : List Nat) (k : Nat) : ofNats (l ++ [k]) = ofNats l ++ [(k : Int)] := by simp [ofNats]
theorem own_kept2 {X : List Nat} {w w1 : World} {base : Nat} {e : TypeId} {k : Nat} {v : Value} {n : Nat} {xs : List Value} (h : w.ownsRow base e k v n xs) (hk : Kept X w w1) (hX : ∀ g, v.ownBlock = some g → g ∉ X) : w1.ownsRow base e k v n xs := by
  refine ⟨h.1, ?_⟩
  rcases h.2 with h2 | ⟨g, cap, cur, rfl, h3, h4, h5⟩
  · exact .inl h2
  · exact .inr ⟨g, cap, cur, rfl, h3, (hk.block g (Array.getElem?_eq_some_iff.1 h4).1 (hX g rfl)).trans h4, h5⟩
theorem own_lt2 {w : World} {base : Nat} {e : TypeId} {k : Nat} {v : Value} {n : Nat} {xs : List Value} (h : w.ownsRow base e k v n xs) {g : Nat} (hg : v.ownBlock = some g) : g < w.heap.size := (own_tag h hg).lt
end Go.Df
namespace Go.Proofs.Ytmbihjlflcjlnaa
open Go.RowKit Go.Df
theorem row_info : (Try.prog.info? 26).map (fun i => (i.zero, i.size, i.bytes)) = some (some (.slice none 0 0), 1, 24) := by kernel_rfl
end Go.Proofs.Ytmbihjlflcjlnaa
