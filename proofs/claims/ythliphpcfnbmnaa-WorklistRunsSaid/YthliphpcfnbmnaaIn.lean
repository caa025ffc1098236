/- The contract of slices.Insert at []int, of one number, into a slice of the caller's own. -/
import Derived.Test.YthliphpcfnbmnaaPl
import Derived.Shelf.Spec.SlicesInsert
import Derived.Shelf.Spec.SlicesInsertGrow
namespace Go.Proofs.Ythliphpcfnbmnaa
open Go.RowKit Go.Df Go.Shelf
def insRen : Ren := ⟨fun | 21 => 28 | 27 => 32 | 28 => 33 | 35 => 34 | 39 => 35 | n => n, fun | 22 => 22 | n => n, fun x => x⟩
theorem insLays : Lays2.n21 Try.prog insRen where
  mixed := by kernel_rfl
  f21 := by kernel_rfl
  f27 := by kernel_rfl
  f28 := by kernel_rfl
  f35 := by kernel_rfl
  f39 := by kernel_rfl
  t0 := by kernel_rfl
  a0 := fun _ => by kernel_rfl
  z0 := fun _ => by kernel_rfl
  v0 := fun _ => by kernel_rfl
  t3 := by kernel_rfl
  a3 := fun _ => by kernel_rfl
  z3 := fun _ => by kernel_rfl
  v3 := fun _ => by kernel_rfl
  t4 := by kernel_rfl
  a4 := fun _ => by kernel_rfl
  z4 := fun _ => by kernel_rfl
  v4 := fun _ => by kernel_rfl
  t22 := by kernel_rfl
  a22 := fun _ => by kernel_rfl
  z22 := fun _ => by kernel_rfl
  v22 := fun _ => by kernel_rfl
  i3 := by kernel_rfl
/-- A list with x at place i. -/
def Wl.ins (l : List Int) (i : Nat) (x : Int) : List Int := l.take i ++ x :: l.drop i
theorem Wl.ins_len {l : List Int} {i : Nat} (x : Int) (h : i ≤ l.length) : (Wl.ins l i x).length = l.length + 1 := by
  simp [Wl.ins]; omega
theorem Wl.gi_ins {l : List Int} {i : Nat} (x : Int) (h : i ≤ l.length) (j : Nat) : gi (Wl.ins l i x) j = if j < i then gi l j else if j = i then x else gi l (j - 1) := by
  have hl : (l.take i).length = i := by simp; omega
  simp only [gi, List.getD_eq_getElem?_getD]
  unfold Wl.ins
  by_cases h1 : j < i
  · rw [if_pos h1, List.getElem?_append_left (by omega), List.getElem?_take_of_lt h1]
  · rw [if_neg h1, List.getElem?_append_right (by omega), hl]
    by_cases h2 : j = i
    · subst h2; simp
    · rw [if_neg h2]
      obtain ⟨d, hd⟩ : ∃ d, j - i = d + 1 := ⟨j - i - 1, by omega⟩
      rw [hd, List.getElem?_cons_succ, List.getElem?_drop, show i + d = j - 1 by omega]
theorem Kept.setCells {X : List Nat} {W : World} (b : Nat) (hb : b ∈ X ∨ W.heap.size ≤ b) : ∀ (vs : List Value) (o : Nat) {w : World}, Kept X W w → Kept X W (w.setCells b o vs)
  | [], _, _, h => h
  | v :: r, o, _, h => Kept.setCells b hb r (o + 1) (h.set b o v hb)
theorem size_setCells (b : Nat) : ∀ (vs : List Value) (o : Nat) (w : World), (w.setCells b o vs).heap.size = w.heap.size
  | [], _, _ => rfl
  | v :: r, o, w => by rw [World.setCells, size_setCells b r]; simp [World.setCell]
/-- The slice of a call's own with one number more. -/
def GetIns (w : World) (base : Nat) (v : Value) (xs : List Int) (e : Ending) (w' : World) : Prop :=
  ∃ A n c, e = .returned (.slice A n c) ∧ SIn w' A n c xs ∧ (∀ a, A = some a → base ≤ a.block ∧ (v.ownBlock = some a.block ∨ w.heap.size ≤ a.block)) ∧ Kept v.ownBlock.toList w w'
theorem one_at {w : World} {vb : Nat} {x : Int} (h : w.heap[vb]? = some (.cells #[.int .i64 x] 3 (0, 0))) : ∀ j v, [Value.int .i64 x][j]? = some v → w.cell? ⟨vb, 0 + j, none⟩ = some v := by
  intro j v hv
  simp only [World.cell?, h]
  cases j with
  | zero => simpa using hv
  | succ j => simp at hv
theorem own_cells {cur : Array Value} {n : Nat} {l : List Int} (ht : cur.toList.take n = l.map (Value.int .i64)) (hl : l.length = n) {w : World} {g : Nat} {t : TypeId} {fr : Nat × Nat} (hh : w.heap[g]? = some (.cells cur t fr)) :
    ∀ j v, (l.map (Value.int .i64))[j]? = some v → w.cell? ⟨g, 0 + j, none⟩ = some v := by
  intro j v hv
  have hj : j < n := by
    rcases Nat.lt_or_ge j n with h | h
    · exact h
    · rw [List.getElem?_eq_none (by simp; omega)] at hv; cases hv
  rw [← ht, List.getElem?_take_of_lt hj] at hv
  simp only [World.cell?, hh, Nat.zero_add]
  simpa using hv
theorem map_gi {l : List Int} {j : Nat} (h : j < l.length) : (l.map (Value.int .i64))[j]? = some (.int .i64 (gi l j)) := by
  rw [List.getElem?_map, List.getElem?_eq_getElem h, gi_lt h]; rfl
/-- Cells that hold a list with x at place i. -/
theorem ins_ints {w' : World} {b n i : Nat} {l : List Int} {x : Int} (hl : l.length = n) (hi : i ≤ n) (hb : b < w'.heap.size)
    (h1 : ∀ j, j < i → w'.cell? ⟨b, j, none⟩ = some (.int .i64 (gi l j))) (h2 : w'.cell? ⟨b, i, none⟩ = some (.int .i64 x)) (h3 : ∀ j, i ≤ j → j < n → w'.cell? ⟨b, j + 1, none⟩ = some (.int .i64 (gi l j))) :
    Ints w' (some ⟨b, 0, none⟩) (n + 1) (Wl.ins l i x) := by
  refine ⟨by rw [Wl.ins_len x (by omega), hl], fun _ => ⟨b, 0, rfl, hb, fun j hj => ?_⟩⟩
  rw [Wl.gi_ins x (by omega), Nat.zero_add]
  by_cases e1 : j < i
  · rw [if_pos e1]; exact h1 j e1
  · rw [if_neg e1]
    by_cases e2 : j = i
    · rw [if_pos e2]; subst e2; exact h2
    · rw [if_neg e2]
      have := h3 (j - 1) (by omega) (by omega)
      rwa [show j - 1 + 1 = j by omega] at this
theorem insert_own (base n i vb : Nat) (v : Value) (l : List Int) (x : Int) (w : World) (hown : w.ownsRow base 3 1 v n (l.map (Value.int .i64))) (hi : i ≤ n) (hn : n ≤ 100000) (hv : w.heap[vb]? = some (.cells #[.int .i64 x] 3 (0, 0))) (hne : ∀ g, v.ownBlock = some g → vb ≠ g) (hbase : base ≤ w.heap.size) :
    Calls Try.prog 28 #[v, .int .i64 i, .slice (some ⟨vb, 0, none⟩) 1 1] w (GetIns w base v (Wl.ins l i x)) := by
  have hl : l.length = n := by simpa using hown.1
  have h1v : ∀ v ∈ [Value.int .i64 x], v.oneCell' = true := by intro u hu; simp at hu; subst hu; rfl
  rcases hown.2 with ⟨rfl, rfl⟩ | ⟨g, cap, cur, rfl, hb, hh, hnc, hcm, hcs, htk⟩
  · obtain rfl : i = 0 := by omega
    obtain rfl : l = [] := List.eq_nil_of_length_eq_zero hl
    refine (Any2.slices_Insert_int_end_grow insLays none 0 0 vb 0 1 1 [] [.int .i64 x] w (by omega) (by omega) (by omega) (by omega) rfl rfl (fun _ => rfl) (fun _ h => by cases h) (one_at hv) h1v).mono ?_
    rintro e w' ⟨rfl, rfl⟩
    refine ⟨_, _, _, rfl, ⟨?_, ?_, ?_, fun h => by cases h⟩, ?_, ?_⟩
    · refine ins_ints rfl (Nat.le_refl _) (by simp) (fun j hj => absurd hj (by omega)) ?_ (fun j h1 h2 => absurd h2 (by omega))
      rw [show w.heap.size = (w.drew).heap.size from rfl, World.cell?_alloc_new, Array.getElem?_append_left (by simp)]
      rfl
    · exact grownCap_ge _ _ _ _
    · exact grownCap_le_maxLen _ _ _ _ (by unfold maxLen; omega)
    · intro a ha; injection ha with ha; subst ha; exact ⟨hbase, .inr (Nat.le_refl _)⟩
    · exact ((Kept.refl _ _).drew).alloc _
  · have hg : g < w.heap.size := by
      rcases Nat.lt_or_ge g w.heap.size with h1 | h1
      · exact h1
      · rw [Array.getElem?_eq_none h1] at hh; cases hh
    simp only [Nat.mul_one] at hcs htk
    have hcells := own_cells htk hl hh
    have hgi : ∀ j, j < n → w.cell? ⟨g, j, none⟩ = some (.int .i64 (gi l j)) := fun j hj => by
      have := hcells j _ (map_gi (by omega)); rwa [Nat.zero_add] at this
    have hsome : ∀ j, j < cap → (w.cell? ⟨g, 0 + j, none⟩).isSome = true := fun j hj => by
      simp only [World.cell?, hh, Nat.zero_add]; simp; omega
    have hfz : ∀ j, w.frozen? ⟨g, j, none⟩ = false := fun j => by simp [World.frozen?, hh]
    have hX : g ∈ (Value.slice (some ⟨g, 0, none⟩) n cap).ownBlock.toList := by simp [Value.ownBlock]
    have h1c : ∀ v ∈ l.map (Value.int .i64), v.oneCell' = true := ints_one l
    have hml : (l.map (Value.int .i64)).length = n := by simpa using hl
    unfold maxLen at hcm
    by_cases hend : i = n
    · subst hend
      by_cases hroom : i + 1 ≤ cap
      · refine (Any2.slices_Insert_int_end_room insLays g 0 i cap vb 0 1 1 [.int .i64 x] w (by omega) hroom (by omega) rfl (fun j hj => by have := hsome (i + j) (by omega); rwa [← Nat.add_assoc] at this) (fun j _ => hfz _) (one_at hv) h1v).mono ?_
        rintro e w' ⟨rfl, rfl⟩
        have hin := World.cell?_setCells_in g [.int .i64 x] (0 + i) w (fun j hj => by simp at hj; subst hj; have := hsome i (by omega); simpa using this) 0 (by simp)
        refine ⟨_, _, _, rfl, ⟨?_, hroom, by omega, fun h => by cases h⟩, ?_, ?_⟩
        · refine ins_ints hl (Nat.le_refl _) (by rw [size_setCells]; exact hg) (fun j hj => ?_) (by simpa using hin) (fun j h1 h2 => absurd h2 (by omega))
          rw [World.cell?_setCells_out g _ _ w _ (fun _ _ => .inl (by simp; omega))]; exact hgi j hj
        · intro a ha; injection ha with ha; subst ha; exact ⟨hb, .inl rfl⟩
        · exact Kept.setCells g (.inl hX) _ _ (Kept.refl _ _)
      · refine (Any2.slices_Insert_int_end_grow insLays (some ⟨g, 0, none⟩) i cap vb 0 1 1 (l.map (Value.int .i64)) [.int .i64 x] w (by omega) hnc (by omega) (by omega) hml rfl (fun h => by cases h) (fun a ha j u hu => by injection ha with ha; subst ha; rw [add_lit]; exact hcells j u hu) (one_at hv) h1v).mono ?_
        rintro e w' ⟨rfl, rfl⟩
        refine ⟨_, _, _, rfl, ⟨?_, ?_, ?_, fun h => by cases h⟩, ?_, ?_⟩
        · refine ins_ints hl (Nat.le_refl _) (by simp) (fun j hj => ?_) ?_ (fun j h1 h2 => absurd h2 (by omega))
          · rw [show w.heap.size = (w.drew).heap.size from rfl, World.cell?_alloc_new, Array.getElem?_append_left (by simp; omega)]
            simp [List.getElem?_append_left, hl, hj, gi_lt]
          · rw [show w.heap.size = (w.drew).heap.size from rfl, World.cell?_alloc_new, Array.getElem?_append_left (by simp; omega)]
            simp [hl]
        · exact grownCap_ge _ _ _ _
        · exact grownCap_le_maxLen _ _ _ _ (by unfold maxLen; omega)
        · intro a ha; injection ha with ha; subst ha; exact ⟨hbase, .inr (Nat.le_refl _)⟩
        · exact ((Kept.refl _ _).drew).alloc _
    · by_cases hroom : n + 1 ≤ cap
      · have hvl : vb < w.heap.size := by
          rcases Nat.lt_or_ge vb w.heap.size with h1 | h1
          · exact h1
          · rw [Array.getElem?_eq_none h1] at hv; cases hv
        refine (Any2.slices_Insert_int_shift insLays g 0 n cap i vb 0 1 1 (l.map (Value.int .i64)) [.int .i64 x] w (by omega) (by omega) hroom (by omega) (hne g rfl) hml rfl hcells (fun j hj => hsome j (by omega)) (fun j _ => hfz _) (one_at hv) h1c h1v 3 3 1 cap (by simp [World.shape?, hv]) (by simp [World.shape?, hh, hcs]) (by omega) (by simp [World.frozen?, hv]) (by simp [World.frozen?, hv])).mono ?_
        rintro e w' ⟨rfl, rfl⟩
        have hdl : ((l.map (Value.int .i64)).drop i).length = n - i := by rw [List.length_drop, hml]
        have hdr : ∀ j, j < n - i → ((l.map (Value.int .i64)).drop i)[j]? = some (.int .i64 (gi l (i + j))) := fun j hj => by
          rw [List.getElem?_drop, map_gi (by omega)]
        have hs1 : ∀ j, j < cap → ((w.drew.setCells g (0 + (i + 1)) ((l.map (Value.int .i64)).drop i)).cell? ⟨g, j, none⟩).isSome = true := fun j hj => isSome_setCells g _ _ _ (fun k hk => by have := hsome (i + 1 + k) (by omega); simpa [Nat.add_assoc] using this) j (by have := hsome j hj; simpa using this)
        refine ⟨_, _, _, rfl, ⟨?_, hroom, by omega, fun h => by cases h⟩, ?_, ?_⟩
        · refine ins_ints hl hi (by rw [size_setCells, size_setCells]; exact hg) (fun j hj => ?_) ?_ (fun j h1 h2 => ?_)
          · rw [World.cell?_setCells_out g _ _ _ _ (fun _ _ => .inl (by simp; omega)), World.cell?_setCells_out g _ _ _ _ (fun _ _ => .inl (by simp; omega))]
            exact hgi j (by omega)
          · have := World.cell?_setCells_in g [.int .i64 x] (0 + i) (w.drew.setCells g (0 + (i + 1)) ((l.map (Value.int .i64)).drop i)) (fun j hj => by simp at hj; subst hj; have := hs1 i (by omega); simpa using this) 0 (by simp)
            simpa using this
          · rw [World.cell?_setCells_out g _ _ _ _ (fun _ _ => .inr (by simp; omega))]
            have := World.cell?_setCells_in g ((l.map (Value.int .i64)).drop i) (0 + (i + 1)) w.drew (fun k hk => by have := hsome (i + 1 + k) (by omega); simpa [Nat.add_assoc] using this) (j - i) (by omega)
            rw [show 0 + (i + 1) + (j - i) = j + 1 by omega] at this
            rw [this]
            have h5 := hdr (j - i) (by omega)
            rw [List.getElem?_eq_getElem (by omega), show i + (j - i) = j by omega] at h5
            exact h5
        · intro a ha; injection ha with ha; subst ha; exact ⟨hb, .inl rfl⟩
        · exact Kept.setCells g (.inl hX) _ _ (Kept.setCells g (.inl hX) _ _ (Kept.refl _ _).drew)
      · refine (Any2.slices_Insert_int_grow insLays g 0 n cap i vb 0 1 1 (l.map (Value.int .i64)) [.int .i64 x] w (by omega) (by omega) hnc (by omega) (by omega) hml rfl hcells (one_at hv) h1c h1v).mono ?_
        rintro e w' ⟨rfl, rfl⟩
        have hge := grownCap_ge w (n + 1) cap (insRen.t 3)
        have hdl : ((l.map (Value.int .i64)).drop i).length = n - i := by rw [List.length_drop, hml]
        have hdr : ∀ j, j < n - i → ((l.map (Value.int .i64)).drop i)[j]? = some (.int .i64 (gi l (i + j))) := fun j hj => by
          rw [List.getElem?_drop, map_gi (by omega)]
        generalize hC : grownCap w (n + 1) cap (insRen.t 3) = C at *
        have hsz : ∀ k, (Builtin.zeroCells (Value.int .i64 0).cells k).size = k := by intro k; simp [Builtin.zeroCells, Value.cells]
        obtain ⟨w1, hw1⟩ : ∃ w1 : World, w1 = (w.alloc (.cells (((l.map (Value.int .i64)).take i).toArray ++ Builtin.zeroCells (Value.int .i64 0).cells (n + 1 - i) ++ Builtin.zeroCells (Value.int .i64 0).cells (C - (n + 1))) (insRen.t 3))) := ⟨_, rfl⟩
        rw [← hw1]
        have hc1 : ∀ j, w1.cell? ⟨w.heap.size, j, none⟩ = (((l.map (Value.int .i64)).take i).toArray ++ Builtin.zeroCells (Value.int .i64 0).cells (n + 1 - i) ++ Builtin.zeroCells (Value.int .i64 0).cells (C - (n + 1)))[j]? := fun j => by rw [hw1, World.cell?_alloc_new]
        have hsome1 : ∀ j, j < n + 1 → (w1.cell? ⟨w.heap.size, j, none⟩).isSome = true := fun j hj => by
          rw [hc1]; simp [hsz, hl]; omega
        have hk1 : Kept (Value.slice (some ⟨g, 0, none⟩) n cap).ownBlock.toList w w1 := by rw [hw1]; exact (Kept.refl _ _).alloc _
        have hz1 : w1.heap.size = w.heap.size + 1 := by rw [hw1]; simp
        refine ⟨_, _, _, rfl, ⟨?_, hge, ?_, fun h => by cases h⟩, ?_, ?_⟩
        · refine ins_ints hl hi (by rw [size_setCells]; show _ < (w1.drew.setCells _ _ _).heap.size; rw [size_setCells]; show _ < w1.heap.size; omega) (fun j hj => ?_) ?_ (fun j h1 h2 => ?_)
          · rw [World.cell?_setCells_out _ _ _ _ _ (fun _ _ => .inl (by simp; omega))]
            show (w1.drew.setCells _ _ _).cell? _ = _
            rw [World.cell?_setCells_out _ _ _ _ _ (fun _ _ => .inl (by simp; omega))]
            show w1.cell? _ = _
            rw [hc1, Array.append_assoc, Array.getElem?_append_left (by simp [hl]; omega)]
            rw [List.getElem?_toArray, List.getElem?_take_of_lt hj, map_gi (by omega)]
          · rw [World.cell?_setCells_out _ _ _ _ _ (fun _ _ => .inl (by simp))]
            show (w1.drew.setCells _ _ _).cell? _ = _
            have := World.cell?_setCells_in w.heap.size [.int .i64 x] i w1.drew (fun j hj => by simp at hj; subst hj; exact hsome1 i (by omega)) 0 (by simp)
            simpa using this
          · have h4 : ∀ k, k < n + 1 → ((w1.drew.setCells w.heap.size i [Value.int .i64 x]).drew.cell? ⟨w.heap.size, k, none⟩).isSome = true := fun k hk => by
              show ((w1.drew.setCells w.heap.size i [Value.int .i64 x]).cell? ⟨w.heap.size, k, none⟩).isSome = true
              exact isSome_setCells _ _ _ _ (fun j hj => by simp at hj; subst hj; exact hsome1 i (by omega)) k (hsome1 k hk)
            have := World.cell?_setCells_in w.heap.size ((l.map (Value.int .i64)).drop i) (i + 1) (w1.drew.setCells w.heap.size i [Value.int .i64 x]).drew (fun k hk => h4 _ (by omega)) (j - i) (by omega)
            rw [show i + 1 + (j - i) = j + 1 by omega] at this
            rw [this]
            have h5 := hdr (j - i) (by omega)
            rw [List.getElem?_eq_getElem (by omega), show i + (j - i) = j by omega] at h5
            exact h5
        · rw [← hC]; exact grownCap_le_maxLen _ _ _ _ (by unfold maxLen; omega)
        · intro a ha; injection ha with ha; subst ha; exact ⟨hbase, .inr (Nat.le_refl _)⟩
        · refine Kept.setCells _ (.inr (Nat.le_refl _)) _ _ (Kept.drew (Kept.setCells _ (.inr (Nat.le_refl _)) _ _ hk1.drew))
end Go.Proofs.Ythliphpcfnbmnaa
