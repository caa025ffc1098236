/- The bit array of Check. -/
import Derived.Test.YthliphpcfnbmnaaE
import Derived.Laws.Bits64b
namespace Go.Proofs.Ythliphpcfnbmnaa
open Go.RowKit Go.Df
def zs49 : Array Value := (List.replicate 1024 (Value.int .u64 0)).toArray
theorem zero49 (w : World) : (zeroValue 49).run Try.prog w = .ok (.agg zs49) w := by kernel_rfl
/-- Block g holds 1024 words. -/
def Wds (w : World) (g : Nat) (f : Nat → Nat) : Prop := g < w.heap.size ∧ (∀ i, i < 1024 → w.cell? ⟨g, i, none⟩ = some (.int .u64 (f i))) ∧ ∀ i, w.frozen? ⟨g, i, none⟩ = false
theorem Wds.new (w : World) : Wds (w.alloc (.cells zs49 49)) w.heap.size (fun _ => 0) := by
  refine ⟨by simp, fun i hi => ?_, fun i => World.frozen?_alloc_new w zs49 49 i⟩
  rw [World.cell?_alloc_new]
  unfold zs49
  rw [List.getElem?_toArray, List.getElem?_replicate, if_pos hi]; rfl
theorem Wds.later {w w1 : World} {g : Nat} {f : Nat → Nat} (h : Wds w g f) (hb : Below w.heap.size w w1) : Wds w1 g f :=
  ⟨Nat.lt_of_lt_of_le h.1 hb.size, fun i hi => (hb.cell (p := ⟨g, i, none⟩) h.1).trans (h.2.1 i hi), fun i => (hb.frozen (p := ⟨g, i, none⟩) h.1).trans (h.2.2 i)⟩
theorem Wds.set {w : World} {g : Nat} {f : Nat → Nat} (h : Wds w g f) (j v : Nat) : Wds (w.setCell ⟨g, j, none⟩ (.int .u64 v)) g (fun i => if i = j then v else f i) := by
  refine ⟨by simpa [World.setCell] using h.1, fun i hi => ?_, fun i => by simpa using h.2.2 i⟩
  dsimp only
  by_cases e : i = j
  · subst e; rw [if_pos rfl]; exact set_same (h.2.1 i hi)
  · rw [if_neg e, set_other (.inr (fun h => e h.symm))]; exact h.2.1 i hi
/-- The test of a bit, as the walk writes it. -/
theorem bit_test (v j : Nat) (hv : v < 18446744073709551616) : (bits BinOp.and IntKind.u64 ((v : Int) / 2 ^ j) 1 == 1) = v.testBit j := by
  have h1 : ((v : Int) / 2 ^ j) = ((v / 2 ^ j : Nat) : Int) := by simp
  have h2 := bits_and_u64_nat (v / 2 ^ j) 1 (Nat.lt_of_le_of_lt (Nat.div_le_self _ _) hv) (by omega)
  rw [h1]
  have h3 : (bits BinOp.and IntKind.u64 ((v / 2 ^ j : Nat) : Int) 1) = (((v / 2 ^ j) &&& 1 : Nat) : Int) := h2
  rw [h3, Nat.testBit_eq_decide_div_mod_eq, Nat.and_one_is_mod, Bool.eq_iff_iff]
  simp
  omega
theorem bit_or (v j : Nat) (hv : v < 18446744073709551616) (hj : j < 64) : bits BinOp.or IntKind.u64 (v : Int) (IntKind.u64.wrap (2 ^ j)) = ((v ||| 2 ^ j : Nat) : Int) := by
  have h1 : 2 ^ j < 2 ^ 64 := Nat.pow_lt_pow_right (by omega) hj
  have h2 : IntKind.u64.wrap (2 ^ j) = ((2 ^ j : Nat) : Int) := by
    have e : ((2 : Int) ^ j) = ((2 ^ j : Nat) : Int) := by simp
    rw [e]
    generalize 2 ^ j = m at h1
    exact IntWalk.u64_in _ (by omega)
  rw [h2]
  exact bits_or_u64_nat v (2 ^ j) hv (by omega)
/-- The end of a round of Check. -/
theorem check_rel {V w1 : World} {g n2 k x nq : Nat} {f : Nat → Nat} {r l : List Int} (hkn : k < n2) (Hl : l.length = n2) (hk1 : Kept [g] V w1) (hw1 : Wds w1 g f) (hbits : Wl.Bits f (l.take k)) (hx : gi l k = (x : Int))
    (herr : ∀ j, j < k → Wl.err r l j = 0) (he : Wl.err r l k = 0) :
    ∃ (k_1 : Nat) (f_1 : Nat → Nat), k_1 ≤ n2 ∧ Value.int .i64 ((k : Int) + 1) = .int .i64 (k_1 : Int) ∧
      Kept [g] V ((w1.drewN nq).setCell ⟨g, x / 64, none⟩ (.int .u64 (bits BinOp.or IntKind.u64 (f (x / 64) : Int) (IntKind.u64.wrap (2 ^ (x % 64)))))) ∧
      Wds ((w1.drewN nq).setCell ⟨g, x / 64, none⟩ (.int .u64 (bits BinOp.or IntKind.u64 (f (x / 64) : Int) (IntKind.u64.wrap (2 ^ (x % 64)))))) g f_1 ∧
      Hid (Wl.Bits f_1 (l.take k_1)) ∧ Hid (∀ j, j < k_1 → Wl.err r l j = 0) := by
  rw [bit_or _ _ (hbits.1 _) (Nat.mod_lt _ (by omega))]
  refine ⟨k + 1, fun i => if i = x / 64 then f (x / 64) ||| 2 ^ (x % 64) else f i, by omega, rfl, (hk1.drewN nq).set g _ _ (.inl (by simp)), (Wds.set (w := w1.drewN nq) hw1 _ _), ?_, ?_⟩
  · have h1 := Wl.bits_set hbits x
    rw [← hx, ← Wl.take_snoc (by omega)] at h1
    have e : (fun i => if i = x / 64 then f (x / 64) ||| 2 ^ (x % 64) else f i) = (fun i => if i = x / 64 then f i ||| 2 ^ (x % 64) else f i) := by
      funext i; split
      · subst_vars; rfl
      · rfl
    rw [e]
    exact h1
  · intro j hj
    rcases Nat.lt_or_ge j k with h2 | h2
    · exact herr j h2
    · obtain rfl : j = k := by omega
      exact he

end Go.Proofs.Ythliphpcfnbmnaa
