/- A pack of texts: Jl Jn. -/
import Derived.Test.YtffkikhknabddaaJk
import Derived.Test.YtffkikhknabddaaLf
/- New tables; the parts of a new solver. -/
namespace Go.Df
open Go.RowKit
/-- A block with its object and its mark. -/
structure ObjT (w : World) (t : Nat → Nat) (g : Nat) (o : Obj) (m : Nat) : Prop where
  heap : w.heap[g]? = some o
  tag : t g = m
theorem ObjT.lt {w : World} {t : Nat → Nat} {g m : Nat} {o : Obj} (h : ObjT w t g o m) : g < w.heap.size := (Array.getElem?_eq_some_iff.1 h.heap).1
theorem ObjT.grow {w w' : World} {t t' : Nat → Nat} {g m : Nat} {o : Obj} (h : ObjT w t g o m) (hg : Grow w t w' t') : ObjT w' t' g o m := ⟨(hg.1.block g h.lt (by simp)).trans h.heap, (hg.2 g h.lt).trans h.tag⟩
theorem ObjT.ne {w : World} {t : Nat → Nat} {g g' m m' : Nat} {o o' : Obj} (h : ObjT w t g o m) (h' : ObjT w t g' o' m') (hm : m ≠ m') : g ≠ g' := fun e => hm (by rw [← h.tag, ← h'.tag, e])
theorem ObjT.new (w : World) (t : Nat → Nat) (o : Obj) (m : Nat) : ObjT (w.alloc o) (Go.Df.mark t w.heap.size m) w.heap.size o m := ⟨heap_alloc_new w o, mark_same _ _ _⟩
theorem ObjT.at {w : World} {t : Nat → Nat} {g m : Nat} {o : Obj} (h : w.heap[g]? = some o) : ObjT w (Go.Df.mark t g m) g o m := ⟨h, mark_same _ _ _⟩
/-- The parts of a new solver: numbers, four rows of slices, two tables, a row of pairs. -/
structure Pcs (base : Nat) (oI oR oM oE oP : Obj) (w : World) (t : Nat → Nat) (g2 g4 g6 g8 g10 g12 g17 g19 : Nat) : Prop where
  h2 : ObjT w t g2 oI 1 ∧ base ≤ g2
  h4 : ObjT w t g4 oR 2 ∧ base ≤ g4
  h6 : ObjT w t g6 oR 3 ∧ base ≤ g6
  h8 : ObjT w t g8 oR 4 ∧ base ≤ g8
  h10 : ObjT w t g10 oR 5 ∧ base ≤ g10
  h12 : ObjT w t g12 oM 6 ∧ base ≤ g12
  h17 : ObjT w t g17 oE 7 ∧ base ≤ g17
  h19 : ObjT w t g19 oP 8 ∧ base ≤ g19
theorem Pcs.grow {base : Nat} {oI oR oM oE oP : Obj} {w w' : World} {t t' : Nat → Nat} {g2 g4 g6 g8 g10 g12 g17 g19 : Nat} (h : Pcs base oI oR oM oE oP w t g2 g4 g6 g8 g10 g12 g17 g19) (hg : Grow w t w' t') : Pcs base oI oR oM oE oP w' t' g2 g4 g6 g8 g10 g12 g17 g19 :=
  ⟨⟨h.h2.1.grow hg, h.h2.2⟩, ⟨h.h4.1.grow hg, h.h4.2⟩, ⟨h.h6.1.grow hg, h.h6.2⟩, ⟨h.h8.1.grow hg, h.h8.2⟩, ⟨h.h10.1.grow hg, h.h10.2⟩, ⟨h.h12.1.grow hg, h.h12.2⟩, ⟨h.h17.1.grow hg, h.h17.2⟩, ⟨h.h19.1.grow hg, h.h19.2⟩⟩
/-- make, as an equation on its run. -/
theorem run_make1 {P : Program} {t e : TypeId} {i : TypeInfo} {z : Value} {bytes : Nat} (ht : P.underlying t = some (.slice e)) (hi : P.info? e = some i) (hz : i.zero = some z) (hsize : i.size = 1) (hby : i.bytes = bytes) (hzc : z.cells = #[z]) (n : Nat) (hbytes : bytes * n ≤ 281474976710656) (h63 : n ≤ 9223372036854775807) (M : Array Value) (hM : (List.replicate n z).toArray = M) (w : World) :
    (Instr.makeSlice t (.int .i64 (n : Int)) (.int .i64 (n : Int))).run P w = .ok (.slice (some ⟨w.heap.size, 0, none⟩) n n) (w.alloc (.cells M e)) := by
  subst hby
  have hrun := run_make (P := P) w t e i z ht hi hz .i64 .i64 (n : Int) (n : Int) (by omega) (Int.le_refl _) (by rw [← Int.natCast_mul]; omega) (by omega)
  simp only [Int.toNat_natCast, hsize, Nat.mul_one, hzc, made_one, hM] at hrun
  exact hrun
end Go.Df
namespace Go.Proofs.Ytffkikhknabddaa
open Go.RowKit Go.Df Go.Df.If
attribute [local go_sem ↓] Go.wp_at_zero Go.wp_at_succ
theorem map_info : (Try.prog.info? 113).map (fun i => (i.zero, i.size, i.bytes)) = some (some (.map none), 1, 8) := by kernel_rfl
theorem row_info : (Try.prog.info? 26).map (fun i => (i.zero, i.size, i.bytes)) = some (some (.slice none 0 0), 1, 24) := by kernel_rfl
theorem prow_info : (Try.prog.info? 66).map (fun i => (i.zero, i.size, i.bytes)) = some (some (.slice none 0 0), 1, 24) := by kernel_rfl

set_option maxRecDepth 100000 in
set_option maxHeartbeats 4000000 in
theorem newTable_any (n : Nat) (w : World) (hn : n ≤ 1000000) (M : Array Value) (hM : (List.replicate n (Value.map none)).toArray = M) :
    Calls Try.prog 113 #[.int .i64 n] w fun e w' => ∃ g, e = .returned (.agg #[.slice (some ⟨g, 0, none⟩) n n]) ∧ w'.heap[g]? = some (.cells M 113 (0, 0)) ∧ w.heap.size ≤ g ∧ Below w.heap.size w w' := by
  obtain ⟨i0, hi, hz0, hz1, hz2⟩ := info_parts map_info
  have hmk := fun w => run_make1 (P := Try.prog) Try.underlying114 hi hz0 hz1 hz2 rfl n (by omega) (by omega) M hM w
  have HM := Lib.hid hM
  clear hM
  go_enter Try.func113, Try.ntmps113
  go_wp2
  go_returns
  refine ⟨w.heap.size + 1, rfl, ?_, by omega, (((Kept.refl [] w).alloc _).alloc _).toBelow⟩
  have h1 := heap_alloc_new (w.alloc (.cells #[.slice (some ⟨w.heap.size + 1, 0, none⟩) n n] 116)) (.cells M 113)
  simpa using h1
end Go.Proofs.Ytffkikhknabddaa
/- Rows of slices of a call's own, written one after the other. -/
namespace Go.Df
open Go.RowKit
theorem least_exists (P : Nat → Prop) (h : ∃ m, P m) : ∃ m, P m ∧ ∀ m', P m' → m ≤ m' := by
  have hk : ∀ k m, m ≤ k → P m → ∃ m, P m ∧ ∀ m', P m' → m ≤ m' := by
    intro k
    induction k with
    | zero => intro m hm hp; obtain rfl : m = 0 := by omega
              exact ⟨0, hp, fun _ _ => Nat.zero_le _⟩
    | succ k ih =>
      intro m hm hp
      by_cases hx : ∃ m', P m' ∧ m' < m
      · obtain ⟨m', h1, h2⟩ := hx
        exact ih m' (by omega) h1
      · exact ⟨m, hp, fun m' h1 => Nat.le_of_not_lt fun h2 => hx ⟨m', h1, h2⟩⟩
  obtain ⟨m, hm⟩ := h
  exact hk m m (Nat.le_refl _) hm
open Classical in
/-- The least number of which P holds in a world. -/
noncomputable def leastM (P : Nat → World → Prop) (w : World) : Nat := if h : ∃ m, P m w then Classical.choose (least_exists (fun m => P m w) h) else 0
theorem leastM_spec {P : Nat → World → Prop} {w : World} (h : ∃ m, P m w) : P (leastM P w) w := by
  unfold leastM
  rw [dif_pos h]
  exact (Classical.choose_spec (least_exists (fun m => P m w) h)).1
theorem leastM_le {P : Nat → World → Prop} {w : World} {m : Nat} (h : P m w) : leastM P w ≤ m := by
  unfold leastM
  rw [dif_pos ⟨m, h⟩]
  exact (Classical.choose_spec (least_exists (fun m => P m w) ⟨m, h⟩)).2 m h
/-- The world is named, whatever follows. -/
theorem act_named {F : Act → World → Prop} {a : Act} {w : World} (S : World → Prop) (h0 : S w) (h : ∀ W, S W → F a W) : F a w := h w h0
theorem blk_of_obj {w : World} {g : Nat} {C : List Value} {t : TypeId} (h : w.heap[g]? = some (.cells C.toArray t (0, 0))) : Blk w g C :=
  ⟨(Array.getElem?_eq_some_iff.1 h).1, fun i => by simp [World.cell?, h], fun i => by simp [World.frozen?, h]⟩
/-- Numbers that may be written. -/
def IntA (w : World) (g n : Nat) (f : Nat → Nat) : Prop := g < w.heap.size ∧ (∀ x, x < n → w.cell? ⟨g, x, none⟩ = some (.int .i64 (f x : Nat))) ∧ ∀ x, w.frozen? ⟨g, x, none⟩ = false
theorem IntA.kept {X : List Nat} {w w' : World} {g n : Nat} {f : Nat → Nat} (h : IntA w g n f) (hk : Kept X w w') (hX : g ∉ X) : IntA w' g n f :=
  ⟨Nat.lt_of_lt_of_le h.1 hk.size, fun x hx => (hk.cell g x h.1 hX).trans (h.2.1 x hx), fun x => (hk.frozen g x h.1 hX).trans (h.2.2 x)⟩
theorem IntA.set {w : World} {g n : Nat} {f : Nat → Nat} (h : IntA w g n f) (i y : Nat) {f' : Nat → Nat} (hf : ∀ x, x < n → f' x = if x = i then y else f x) : IntA (w.setCell ⟨g, i, none⟩ (.int .i64 (y : Nat))) g n f' := by
  refine ⟨by simpa [World.setCell] using h.1, fun x hx => ?_, fun x => by simpa using h.2.2 x⟩
  rw [hf x hx]
  by_cases e : x = i
  · subst e; rw [if_pos rfl]; exact set_same (h.2.1 x hx)
  · rw [if_neg e, set_other (.inr (fun h => e h.symm))]; exact h.2.1 x hx
theorem rep_at {n i : Nat} {v : Value} (h : i < n) : (List.replicate n v).toArray[i]? = some v := by simp [h]
open Classical in
noncomputable def upd2 {α : Type} (f : Nat → Nat → α) (t i : Nat) (x : α) : Nat → Nat → α := fun t' i' => if t' = t ∧ i' = i then x else f t' i'
theorem upd2_at {α : Type} (f : Nat → Nat → α) (t i : Nat) (x : α) : upd2 f t i x t i = x := by simp [upd2]
theorem upd2_ne {α : Type} {f : Nat → Nat → α} {t i t' i' : Nat} {x : α} (h : ¬ (t' = t ∧ i' = i)) : upd2 f t i x t' i' = f t' i' := by simp [upd2, h]
def rsel (a b c d : Nat) (t : Nat) : Nat := match t with
  | 0 => a
  | 1 => b
  | 2 => c
  | _ => d
abbrev SXt (X : List Nat) (ga gb gc : Nat) (W w' : World) : Prop := Kept X W w' ∧ (∀ o, w'.cell? ⟨ga, o, none⟩ = W.cell? ⟨ga, o, none⟩) ∧ (∀ o, w'.cell? ⟨gb, o, none⟩ = W.cell? ⟨gb, o, none⟩) ∧ (∀ o, w'.cell? ⟨gc, o, none⟩ = W.cell? ⟨gc, o, none⟩)
theorem SXt.of {X : List Nat} {ga gb gc : Nat} {W w' : World} (h : Kept X W w') (ha : ga < W.heap.size) (hb : gb < W.heap.size) (hc : gc < W.heap.size) (xa : ga ∉ X) (xb : gb ∉ X) (xc : gc ∉ X) : SXt X ga gb gc W w' := ⟨h, fun o => h.cell ga o ha xa, fun o => h.cell gb o hb xb, fun o => h.cell gc o hc xc⟩
/-- Four rows of N slices of numbers; each slice has a block of its own, not below lim. -/
structure Rws (e : TypeId) (lim : Nat) (w : World) (r : Nat → Nat) (N : Nat) (v : Nat → Nat → Value) (l : Nat → Nat → List Int) : Prop where
  cell : ∀ t i, t < 4 → i < N → w.cell? ⟨r t, i, none⟩ = some (v t i)
  fr : ∀ t i, t < 4 → w.frozen? ⟨r t, i, none⟩ = false
  rlt : ∀ t, t < 4 → r t < lim
  hlim : lim ≤ w.heap.size
  rr : ∀ t t', t < 4 → t' < 4 → r t = r t' → t = t'
  own : ∀ t i, t < 4 → i < N → w.ownsRow lim e 1 (v t i) (l t i).length ((l t i).map (Value.int .i64))
  vv : ∀ t i t' i' x, t < 4 → t' < 4 → i < N → i' < N → (v t i).ownBlock = some x → (v t' i').ownBlock = some x → t = t' ∧ i = i'
variable {e : TypeId} {lim : Nat} {w w1 : World} {r : Nat → Nat} {N : Nat} {v : Nat → Nat → Value} {l : Nat → Nat → List Int}
theorem Rws.kept {X : List Nat} (h : Rws e lim w r N v l) (hk : Kept X w w1) (hX : ∀ x ∈ X, x < lim ∧ ∀ t, t < 4 → x ≠ r t) : Rws e lim w1 r N v l := by
  have hr : ∀ t, t < 4 → r t ∉ X := fun t ht hm => (hX _ hm).2 t ht rfl
  have hrl : ∀ t, t < 4 → r t < w.heap.size := fun t ht => Nat.lt_of_lt_of_le (h.rlt t ht) h.hlim
  exact ⟨fun t i ht hi => (hk.cell (r t) i (hrl t ht) (hr t ht)).trans (h.cell t i ht hi), fun t i ht => (hk.frozen (r t) i (hrl t ht) (hr t ht)).trans (h.fr t i ht), h.rlt, Nat.le_trans h.hlim hk.size, h.rr,
    fun t i ht hi => own_kept2 (h.own t i ht hi) hk (fun g hg hm => by have h1 := own_ge (h.own t i ht hi) hg; have h2 := (hX g hm).1; omega), h.vv⟩
/-- A slice gets one more number. -/
theorem Rws.snoc {t i : Nat} {v' : Value} {l' : List Int} (h : Rws e lim w r N v l) (ht : t < 4) (hi : i < N) (hk : Kept (v t i).ownBlock.toList w w1) (hv : w1.ownsRow lim e 1 v' l'.length (l'.map (Value.int .i64)))
    (hg : ∀ g, v'.ownBlock = some g → (v t i).ownBlock = some g ∨ w.heap.size ≤ g) : Rws e lim (w1.setCell ⟨r t, i, none⟩ v') r N (upd2 v t i v') (upd2 l t i l') := by
  have hrl : ∀ t, t < 4 → r t < w.heap.size := fun t ht => Nat.lt_of_lt_of_le (h.rlt t ht) h.hlim
  have hvr : ∀ t' i' g, t' < 4 → i' < N → (v t' i').ownBlock = some g → ∀ t'', t'' < 4 → g ≠ r t'' := fun t' i' g ht' hi' hg' t'' ht'' e => by
    have h1 := own_ge (h.own t' i' ht' hi') hg'
    have h2 := h.rlt t'' ht''
    omega
  have hrn : ∀ t', t' < 4 → r t' ∉ (v t i).ownBlock.toList := fun t' ht' hm => hvr t i _ ht hi (by simpa using hm) t' ht' rfl
  have hk2 : Kept (r t :: (v t i).ownBlock.toList) w (w1.setCell ⟨r t, i, none⟩ v') := (keptWide hk (fun x hx => List.mem_cons_of_mem _ hx)).set (r t) i v' (.inl (by simp))
  have hv'r : ∀ g, v'.ownBlock = some g → g ≠ r t := fun g hg' => by
    rcases hg g hg' with h1 | h1
    · exact hvr t i g ht hi h1 t ht
    · have := hrl t ht; omega
  refine ⟨fun t' i' ht' hi' => ?_, fun t' i' ht' => ?_, h.rlt, Nat.le_trans h.hlim (by simpa [World.setCell] using hk.size), h.rr, fun t' i' ht' hi' => ?_, fun t1 i1 t2 i2 x h1 h2 h3 h4 h5 h6 => ?_⟩
  · have hc := (hk.cell (r t') i' (hrl t' ht') (hrn t' ht')).trans (h.cell t' i' ht' hi')
    by_cases e1 : t' = t ∧ i' = i
    · obtain ⟨rfl, rfl⟩ := e1
      rw [upd2_at]
      exact set_same hc
    · rw [upd2_ne e1, set_other]
      · exact hc
      · by_cases e2 : t' = t
        · right; intro e3; exact e1 ⟨e2, e3.symm⟩
        · left; intro e3; exact e2 (h.rr t' t ht' ht e3.symm)
  · have := (hk.frozen (r t') i' (hrl t' ht') (hrn t' ht')).trans (h.fr t' i' ht')
    simpa using this
  · by_cases e1 : t' = t ∧ i' = i
    · obtain ⟨rfl, rfl⟩ := e1
      rw [upd2_at, upd2_at]
      exact own_kept2 hv ((Kept.refl [r t'] w1).set (r t') i' v' (.inl (by simp))) (fun g hg' => by simpa using hv'r g hg')
    · rw [upd2_ne e1, upd2_ne e1]
      refine own_kept2 (h.own t' i' ht' hi') hk2 (fun g hg' hm => ?_)
      rcases List.mem_cons.1 hm with h1 | h1
      · exact hvr t' i' g ht' hi' hg' t ht h1
      · exact e1 (h.vv t' i' t i g ht' ht hi' hi hg' (by simpa using h1))
  · by_cases e1 : t1 = t ∧ i1 = i
    · obtain ⟨rfl, rfl⟩ := e1
      rw [upd2_at] at h5
      by_cases e2 : t2 = t1 ∧ i2 = i1
      · exact ⟨e2.1.symm, e2.2.symm⟩
      · rw [upd2_ne e2] at h6
        rcases hg x h5 with h7 | h7
        · exact h.vv t1 i1 t2 i2 x h1 h2 h3 h4 h7 h6
        · have := own_lt2 (h.own t2 i2 h2 h4) h6; omega
    · rw [upd2_ne e1] at h5
      by_cases e2 : t2 = t ∧ i2 = i
      · obtain ⟨rfl, rfl⟩ := e2
        rw [upd2_at] at h6
        rcases hg x h6 with h7 | h7
        · exact h.vv t1 i1 t2 i2 x h1 h2 h3 h4 h5 h7
        · have := own_lt2 (h.own t1 i1 h1 h3) h5; omega
      · rw [upd2_ne e2] at h6
        exact h.vv t1 i1 t2 i2 x h1 h2 h3 h4 h5 h6
namespace If
open Sp
/-- The four rows, each filled so far. -/
def LK0 (p : Pb) (k i : Nat) : List Int := ofNats ((List.range k).filter fun k => (ge p.es k).a == (i : Int))
def LK1 (p : Pb) (k i : Nat) : List Int := ofNats ((List.range k).filter fun k => (ge p.es k).k == 2 && (ge p.es k).b == (i : Int))
def LK2 (p : Pb) (k i : Nat) : List Int := ofNats ((List.range k).filter fun k => ((ge p.es k).k == 3 || (ge p.es k).k == 4) && (ge p.es k).c == (i : Int))
def LK3 (p : Pb) (j i : Nat) : List Int := ((p.sd.take j).filter fun s => s.n == (i : Int)).map Sd.f
def LK (p : Pb) (k0 k1 k2 j : Nat) (t i : Nat) : List Int :=
  match t with
  | 0 => LK0 p k0 i
  | 1 => LK1 p k1 i
  | 2 => LK2 p k2 i
  | 3 => LK3 p j i
  | _ => []
theorem filter_one {f : Nat → Bool} (k : Nat) : (List.range (k + 1)).filter f = if f k = true then (List.range k).filter f ++ [k] else (List.range k).filter f := by
  rw [List.range_succ, List.filter_append]
  by_cases h : f k = true
  · simp [h]
  · simp [h]
theorem ofNats_snoc (l : List Nat) (k : Nat) : ofNats (l ++ [k]) = ofNats l ++ [(k : Int)] := by simp [ofNats]
theorem LK_out {p : Pb} {k1 k2 j k ea : Nat} (h : (ge p.es k).a = (ea : Int)) : LK p (k + 1) k1 k2 j = upd2 (LK p k k1 k2 j) 0 ea (LK p k k1 k2 j 0 ea ++ [(k : Int)]) := by
  funext t i
  by_cases e : t = 0 ∧ i = ea
  · obtain ⟨rfl, rfl⟩ := e
    rw [upd2_at]
    show LK0 p (k + 1) i = LK0 p k i ++ [(k : Int)]
    unfold LK0
    rw [filter_one, if_pos (by simp [h]), ofNats_snoc]
  · rw [upd2_ne e]
    match t, e with
    | 0, e =>
      have e : i ≠ ea := fun h => e ⟨rfl, h⟩
      show LK0 p (k + 1) i = LK0 p k i
      unfold LK0
      rw [filter_one, if_neg (by simp [h]; omega)]
    | 1, _ => rfl
    | 2, _ => rfl
    | 3, _ => rfl
    | _ + 4, _ => rfl
theorem LK_call {p : Pb} {k0 k2 j k eb : Nat} (h2 : (ge p.es k).k = 2) (h : (ge p.es k).b = (eb : Int)) : LK p k0 (k + 1) k2 j = upd2 (LK p k0 k k2 j) 1 eb (LK p k0 k k2 j 1 eb ++ [(k : Int)]) := by
  funext t i
  by_cases e : t = 1 ∧ i = eb
  · obtain ⟨rfl, rfl⟩ := e
    rw [upd2_at]
    show LK1 p (k + 1) i = LK1 p k i ++ [(k : Int)]
    unfold LK1
    rw [filter_one, if_pos (by simp [h, h2]), ofNats_snoc]
  · rw [upd2_ne e]
    match t, e with
    | 1, e =>
      have e : i ≠ eb := fun h => e ⟨rfl, h⟩
      show LK1 p (k + 1) i = LK1 p k i
      unfold LK1
      rw [filter_one, if_neg (by simp [h, h2]; omega)]
    | 0, _ => rfl
    | 2, _ => rfl
    | 3, _ => rfl
    | _ + 4, _ => rfl
theorem LK_nocall {p : Pb} {k0 k2 j k : Nat} (h2 : (ge p.es k).k ≠ 2) : LK p k0 (k + 1) k2 j = LK p k0 k k2 j := by
  funext t i
  match t with
  | 1 =>
    show LK1 p (k + 1) i = LK1 p k i
    unfold LK1
    rw [filter_one, if_neg (by simp [h2])]
  | 0 => rfl
  | 2 => rfl
  | 3 => rfl
  | _ + 4 => rfl
theorem LK_ret {p : Pb} {k0 k1 j k ec : Nat} (h2 : (ge p.es k).k = 3 ∨ (ge p.es k).k = 4) (h : (ge p.es k).c = (ec : Int)) : LK p k0 k1 (k + 1) j = upd2 (LK p k0 k1 k j) 2 ec (LK p k0 k1 k j 2 ec ++ [(k : Int)]) := by
  funext t i
  by_cases e : t = 2 ∧ i = ec
  · obtain ⟨rfl, rfl⟩ := e
    rw [upd2_at]
    show LK2 p (k + 1) i = LK2 p k i ++ [(k : Int)]
    unfold LK2
    rw [filter_one, if_pos (by simp [h, h2]), ofNats_snoc]
  · rw [upd2_ne e]
    match t, e with
    | 2, e =>
      have e : i ≠ ec := fun h => e ⟨rfl, h⟩
      show LK2 p (k + 1) i = LK2 p k i
      unfold LK2
      rw [filter_one, if_neg (by simp [h]; omega)]
    | 0, _ => rfl
    | 1, _ => rfl
    | 3, _ => rfl
    | _ + 4, _ => rfl
theorem LK_noret {p : Pb} {k0 k1 j k : Nat} (h2 : ¬ ((ge p.es k).k = 3 ∨ (ge p.es k).k = 4)) : LK p k0 k1 (k + 1) j = LK p k0 k1 k j := by
  funext t i
  match t with
  | 2 =>
    show LK2 p (k + 1) i = LK2 p k i
    unfold LK2
    rw [filter_one, if_neg (by simp; intro h3; exact absurd h3 h2)]
  | 0 => rfl
  | 1 => rfl
  | 3 => rfl
  | _ + 4 => rfl
theorem LK_seed {p : Pb} {k0 k1 k2 j sn : Nat} (hj : j < p.sd.length) (h : (gd p.sd j).n = (sn : Int)) : LK p k0 k1 k2 (j + 1) = upd2 (LK p k0 k1 k2 j) 3 sn (LK p k0 k1 k2 j 3 sn ++ [(gd p.sd j).f]) := by
  rw [gd_lt hj] at h ⊢
  funext t i
  by_cases e : t = 3 ∧ i = sn
  · obtain ⟨rfl, rfl⟩ := e
    rw [upd2_at]
    show LK3 p (j + 1) i = LK3 p j i ++ _
    unfold LK3
    rw [List.take_succ_eq_append_getElem hj, List.filter_append, List.map_append]
    simp [h]
  · rw [upd2_ne e]
    match t, e with
    | 0, _ => rfl
    | 1, _ => rfl
    | 2, _ => rfl
    | 3, e =>
      have e : i ≠ sn := fun h => e ⟨rfl, h⟩
      show LK3 p (j + 1) i = LK3 p j i
      unfold LK3
      rw [List.take_succ_eq_append_getElem hj, List.filter_append]
      simp [h]
      omega
    | _ + 4, _ => rfl
theorem LK_nil (p : Pb) (t i : Nat) : LK p 0 0 0 0 t i = [] := by
  match t with
  | 0 => rfl
  | 1 => rfl
  | 2 => rfl
  | 3 => rfl
  | _ + 4 => rfl
theorem LK_len {p : Pb} {k0 k1 k2 j m : Nat} (h0 : k0 ≤ m) (h1 : k1 ≤ m) (h2 : k2 ≤ m) (h3 : j ≤ m) (t i : Nat) : (LK p k0 k1 k2 j t i).length ≤ m := by
  have hf : ∀ (f : Nat → Bool) (k : Nat), ((List.range k).filter f).length ≤ k := fun f k => Nat.le_trans (List.length_filter_le _ _) (by simp)
  match t with
  | 0 => show (LK0 p k0 i).length ≤ m; unfold LK0; rw [ofNats_len]; exact Nat.le_trans (hf _ _) h0
  | 1 => show (LK1 p k1 i).length ≤ m; unfold LK1; rw [ofNats_len]; exact Nat.le_trans (hf _ _) h1
  | 2 => show (LK2 p k2 i).length ≤ m; unfold LK2; rw [ofNats_len]; exact Nat.le_trans (hf _ _) h2
  | 3 =>
    show (LK3 p j i).length ≤ m
    unfold LK3
    rw [List.length_map]
    refine Nat.le_trans (List.length_filter_le _ _) ?_
    rw [List.length_take]
    omega
  | _ + 4 => exact Nat.zero_le _
end If
theorem Rws.init {p : If.Pb} {e tS : TypeId} {w : World} {g4 g6 g8 g10 n : Nat} {MR : Array Value} (h4 : w.heap[g4]? = some (.cells MR tS (0, 0))) (h6 : w.heap[g6]? = some (.cells MR tS (0, 0))) (h8 : w.heap[g8]? = some (.cells MR tS (0, 0))) (h10 : w.heap[g10]? = some (.cells MR tS (0, 0)))
    (hM : ∀ i, i < n → MR[i]? = some (.slice none 0 0)) (n1 : g4 ≠ g6) (n2 : g4 ≠ g8) (n3 : g4 ≠ g10) (n4 : g6 ≠ g8) (n5 : g6 ≠ g10) (n6 : g8 ≠ g10) : Rws e w.heap.size w (rsel g4 g6 g8 g10) n (fun _ _ => .slice none 0 0) (If.LK p 0 0 0 0) := by
  have hr : ∀ t, t < 4 → w.heap[rsel g4 g6 g8 g10 t]? = some (.cells MR tS (0, 0)) := fun t ht => by
    match t, ht with
    | 0, _ => exact h4
    | 1, _ => exact h6
    | 2, _ => exact h8
    | 3, _ => exact h10
  refine ⟨fun t i ht hi => by simp [World.cell?, hr t ht, hM i hi], fun t i ht => by simp [World.frozen?, hr t ht], fun t ht => (Array.getElem?_eq_some_iff.1 (hr t ht)).1, Nat.le_refl _, fun t t' ht ht' e => ?_, fun t i _ _ => ?_, fun t i t' i' x _ _ _ _ h _ => by cases h⟩
  · match t, t', ht, ht' with
    | 0, 0, _, _ => rfl
    | 0, 1, _, _ => exact absurd e n1
    | 0, 2, _, _ => exact absurd e n2
    | 0, 3, _, _ => exact absurd e n3
    | 1, 0, _, _ => exact absurd e.symm n1
    | 1, 1, _, _ => rfl
    | 1, 2, _, _ => exact absurd e n4
    | 1, 3, _, _ => exact absurd e n5
    | 2, 0, _, _ => exact absurd e.symm n2
    | 2, 1, _, _ => exact absurd e.symm n4
    | 2, 2, _, _ => rfl
    | 2, 3, _, _ => exact absurd e n6
    | 3, 0, _, _ => exact absurd e.symm n3
    | 3, 1, _, _ => exact absurd e.symm n5
    | 3, 2, _, _ => exact absurd e.symm n6
    | 3, 3, _, _ => rfl
  · rw [If.LK_nil]
    exact World.ownsRow_nil _ _ _ _
end Go.Df
namespace Go.Proofs.Ytffkikhknabddaa
open Go.RowKit Go.Df Go.Df.If
/-- Pop at a worklist without a rank that is not empty. -/
theorem pop_some {rA qA : Option Addr} {rc qn qc n : Nat} {r : List Nat} {N : Nat} (w : World) (hr : SIn w rA 0 rc []) (hq : SIn w qA qn qc (ofNats (n :: r))) (hd : (n :: r).Nodup) (hN : ∀ x ∈ n :: r, x < N) (h8 : N ≤ 8192) :
    Calls Try.prog 116 #[.agg #[.slice rA 0 rc, .slice qA qn qc]] w (GetPop w (n : Int) [] (ofNats r) true) := by
  have hc := wl_ok hd hN h8
  have hl : qn = r.length + 1 := by have := hq.1.1; rw [ofNats_len] at this; simpa using this.symm
  have e1 : gi (ofNats (n :: r)) 0 = (n : Int) := by rw [gi_ofNats (by simp)]; rfl
  have e2 : (ofNats (n :: r)).drop 1 = ofNats r := by simp [ofNats]
  have key : Calls Try.prog 116 #[.agg #[.slice rA 0 rc, .slice qA qn qc]] w (GetPop w (gi (ofNats (n :: r)) 0) [] ((ofNats (n :: r)).drop 1) true) := by
    by_cases h2 : 2 ≤ qn
    · exact pop_two rA qA 0 rc qn qc [] (ofNats (n :: r)) w hr.1 hq.1 hc h2 hq.2.1 (fun _ => rfl)
    · obtain rfl : qn = 1 := by omega
      exact pop_one rA qA 0 rc qc [] (ofNats (n :: r)) w hr.1 hq.1 hc hq.2.1 (fun _ => rfl)
  rw [e1, e2] at key
  exact key
/-- The tabulation is done: the solver holds the path edges. -/
def GetTab (p : Pb) (w : World) (e : Ending) (w' : World) : Prop := ∃ K g O G s, e = .returned (.pointer (some ⟨g, 0, none⟩)) ∧ Inp p K w ∧ Mem p K w g O G w' s ∧ (∀ a m d, s.h m a d = true ↔ PE p a m d) ∧ Wf p s
end Go.Proofs.Ytffkikhknabddaa
