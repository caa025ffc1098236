/- The walk of WorklistArrival. -/
import Derived.Test.YthliphpcfnbmnaaSo
namespace Go.Proofs.Ythliphpcfnbmnaa
open Go.RowKit Go.Df
attribute [local go_sem ↓] Go.wp_at_zero Go.wp_at_succ
/-- The first k items in the order of their first arrival. -/
def Wl.arr (l : List Int) : Nat → List Int
  | 0 => []
  | k + 1 => if gi l k ∈ Wl.arr l k then Wl.arr l k else Wl.arr l k ++ [gi l k]
theorem Wl.arr_le (l : List Int) (k : Nat) : (Wl.arr l k).length ≤ k := by
  induction k with
  | zero => exact Nat.le_refl _
  | succ k ih =>
    rw [Wl.arr]
    split
    · omega
    · simp; omega
theorem Wl.ins_end (l : List Int) (x : Int) : Wl.ins l l.length x = l ++ [x] := by simp [Wl.ins]
theorem Wl.arr_valid {l : List Int} (hl : ∀ j, 0 ≤ gi l j ∧ gi l j ≤ 65535) (k : Nat) (hk : k ≤ 200) : Wl.Valid [] (Wl.arr l k) := by
  induction k with
  | zero => exact Wl.valid_nil (by simp)
  | succ k ih =>
    have hv := ih (by omega)
    rw [Wl.arr]
    split
    · exact hv
    · rename_i hm
      have h1 := Wl.valid_ins hv (x := gi l k) (by have := hl k; simp [Wl.allowed]; omega) hm (by have := Wl.arr_le l k; omega)
      have h2 : Wl.place [] (Wl.arr l k) (gi l k) = (Wl.arr l k).length := by simp [Wl.place]
      rwa [h2, Wl.ins_end] at h1
theorem Wl.arr_push {l : List Int} (hl : ∀ j, 0 ≤ gi l j ∧ gi l j ≤ 65535) (k : Nat) (hk : k < 200) : Wl.perr [] (Wl.arr l k) (gi l k) = 0 ∧ Wl.pR [] (Wl.arr l k) (gi l k) = [] ∧ Wl.pL [] (Wl.arr l k) (gi l k) = Wl.arr l (k + 1) := by
  have hv := Wl.arr_valid hl k (by omega)
  have ha : Wl.allowed ([] : List Int).length (gi l k) = true := by have := hl k; simp [Wl.allowed]; omega
  have h0 : Wl.perr [] (Wl.arr l k) (gi l k) = 0 := by
    unfold Wl.perr
    rw [Wl.chk_of_valid hv, ha]
    have := Wl.arr_le l k
    simp
    intro _
    omega
  refine ⟨h0, by rw [Wl.pR, if_pos h0], ?_⟩
  rw [Wl.pL, if_pos h0, Wl.arr]
  have h2 : Wl.place [] (Wl.arr l k) (gi l k) = (Wl.arr l k).length := by simp [Wl.place]
  rw [h2, Wl.ins_end]
/-- A slice of uint16's. -/
def U16s (w : World) (A : Option Addr) (n : Nat) (xs : List Int) : Prop :=
  xs.length = n ∧ (∀ j, 0 ≤ gi xs j ∧ gi xs j ≤ 65535) ∧ (0 < n → ∃ b o, A = some ⟨b, o, none⟩ ∧ b < w.heap.size ∧ ∀ i, i < n → w.cell? ⟨b, o + i, none⟩ = some (.int .u16 (gi xs i)))
theorem SIn.ge_of {w w1 : World} {A : Option Addr} (h : Fr w w1 A) {a : Addr} (ha : A = some a) {g : Nat} (hg : g < w.heap.size) : a.block ≠ g := by
  have := h a ha; omega

set_option maxRecDepth 100000 in
set_option maxHeartbeats 2000000 in
theorem arrival_any (A : Option Addr) (n c : Nat) (l : List Int) (w : World) (hl : U16s w A n l) (hn63 : n ≤ 9223372036854775807) :
    Calls Try.prog 4 #[.slice A n c] w fun e w' => e = .returned (.bool true) ∧ Below w.heap.size w w' := by
  obtain ⟨i0, hi, hz0, hz1, hz2⟩ := info_parts int_info
  have HL := Lib.hid hl
  have HB := Lib.hid hl.2.1
  clear hl
  by_cases t1 : 200 < n
  · have d1 : decide ((200 : Int) < n) = true := by simp; omega
    go_enter Try.func4, Try.ntmps4
    go_wp2_with fail
    refine (awake_any _).mono ?_
    rintro e w1 ⟨rfl, hb1⟩
    go_wp2_with fail
    go_ret
    exact ⟨rfl, hb1⟩
  have d1 : decide ((200 : Int) < n) = false := by simp; omega
  have hn2 : n ≤ 200 := by omega
  go_enter Try.func4, Try.ntmps4
  go_wp2_with fail
  refine (new_ok none 0 0 [] _ (Ints.empty _ _) (by omega) (fun _ => rfl)).mono ?_
  rintro e w1 ⟨A1, n1, c1, A2, n2, c2, rfl, hx1, hx2, hb1, hf1, hf2⟩
  have H1 := Lib.hid hx1
  have H2 := Lib.hid hx2
  clear hx1 hx2 hf1 hf2
  go_upto_region 4 with fail
  refine wp_named (fun V => ∃ g, w1.heap.size = g ∧ Blk V g [.slice A1 n1 c1, .slice A2 n2 c2] ∧ Kept [] w1 V) ⟨_, rfl, Blk.new _ _ _ _ rfl, (Kept.refl _ _).alloc _⟩ ?_
  rintro U ⟨g, eg, Bg, hkU⟩
  rw [eg]
  have G0 : w.heap.size ≤ g := by have := hb1.size; omega
  have hBU : Below w.heap.size w U := hkU.below hb1 hb1.size (by simp)
  have H1U := Lib.hid (H1.out.kept hkU)
  have H2U := Lib.hid (H2.out.kept hkU)
  clear eg hkU hb1 H1 H2
  have GU := Bg.1
  go_wp2_with fail
  go_loopw [4, 5, 6] (fun e v i wr => ∃ (k : Nat) (A3 A4 A5 : Option Addr) (n3 c3 n4 c4 c5 : Nat), k ≤ n ∧ i = .int .i64 k ∧ e = .int .i64 0 ∧ v = .slice A5 (Wl.arr l k).length c5 ∧ Blk wr g [.slice A3 n3 c3, .slice A4 n4 c4] ∧ Hid (SIn wr A3 n3 c3 []) ∧ Hid (SIn wr A4 n4 c4 (Wl.arr l k)) ∧ Hid (wr.ownsRow U.heap.size 3 1 (.slice A5 (Wl.arr l k).length c5) (Wl.arr l k).length ((Wl.arr l k).map (Value.int .i64))) ∧ Hid (∀ h, (Value.slice A5 (Wl.arr l k).length c5).ownBlock = some h → ∀ a, A4 = some a → a.block ≠ h) ∧ Below w.heap.size w wr ∧ U.heap.size ≤ wr.heap.size) (fun _ _ i _ => n - (intOf i).toNat)
  case atStart => exact ⟨0, A1, A2, none, n1, c1, n2, c2, 0, Nat.zero_le _, rfl, rfl, rfl, Bg, H1U, H2U, Lib.hid ⟨rfl, .inl ⟨rfl, rfl⟩⟩, Lib.hid (fun h hh => by cases hh), hBU, Nat.le_refl _⟩
  case round =>
    obtain ⟨k, A3, A4, A5, n3, c3, n4, c4, c5, hk, rfl, rfl, rfl, BR, HR3, HR4, HO, HNe, hBR, hsU⟩ := hrel
    clear Bg H1U H2U
    have ⟨LR, CR, FR⟩ := BR
    by_cases hkn : k < n
    · have hst := Lib.hid (Wl.arr_push HB.out k (by omega))
      have hale := Wl.arr_le l k
      obtain ⟨x0, x1⟩ := HB.out k
      obtain ⟨b, o, rfl, hlt, hc⟩ := HL.out.2.2 (by omega)
      have hcw := hc k hkn
      have hcell : wr.cell? ⟨b, o + k, none⟩ = some (.int .u16 (gi l k)) := (hBR.cell (p := ⟨b, o + k, none⟩) hlt).trans hcw
      clear hc
      have k1 : decide (k < n) = true := by simp; omega
      have k2 : decide ((k : Int) < (n : Int)) = true := by simp; omega
      have w1 : IntKind.i64.wrap (gi l k) = gi l k := IntWalk.i64_in _ (by omega)
      have y1 : (0 : Int) ≤ (k : Int) := by omega
      go_upto_region 8 with fail
      go_region_with ((go_at_call 13; refine (push_u (show SIn wr.drew A3 n3 c3 [] from HR3.out) (show SIn wr.drew A4 n4 c4 (Wl.arr l k) from HR4.out) (gi l k)).mono ?_; rw [hst.out.1, hst.out.2.1, hst.out.2.2]; rintro e w2 ⟨A6, n6, c6, A7, n7, c7, rfl, hx1, hx2, hb2, hf5, hf6⟩; have H5 := Lib.hid hx1; have H6 := Lib.hid hx2; have HF5 := Lib.hid hf5; have HF6 := Lib.hid hf6; clear hx1 hx2 hf5 hf6; have B2 := BR.drew.later hb2; have ⟨L2, C2, F2⟩ := B2))
      all_goals
        go_upto_region 9 with fail
        refine wp_named (fun V => Blk V g [.slice A6 n6 c6, .slice A7 n7 c7] ∧ Kept [g] w2 V) ⟨Blk.set2 (B2.n rfl), ((Kept.refl [g] w2).set g 0 _ (.inl (by simp))).set g 1 _ (.inl (by simp))⟩ ?_
        rintro V ⟨BV, hkV⟩
        have ⟨LV, CV, FV⟩ := BV
        have H5V := Lib.hid (H5.out.apart HF5.out LR hkV)
        have H6V := Lib.hid (H6.out.apart HF6.out LR hkV)
        have hB2 : Below w.heap.size w w2 := below_step hBR.size hBR ((drewN_below _ _ 1).trans hb2)
        have hBV : Below w.heap.size w V := hkV.below hB2 hB2.size (by simpa using G0)
        have HOV := Lib.hid (own_keptX (own_later (own_drew HO.out) hb2) hkV (fun h hh => by have := own_ge HO.out hh; simp; omega))
        have HNV : Hid (∀ h, (Value.slice A5 (Wl.arr l k).length c5).ownBlock = some h → ∀ a, A7 = some a → a.block ≠ h) := fun h hh a ha => by
          have t1 := own_lt HO.out hh
          have t2 := HF6.out a ha
          have t3 : wr.heap.size ≤ a.block := t2.1
          omega
        have hsV : U.heap.size ≤ V.heap.size := by have t1 := hb2.size; have t2 := hkV.size; have t3 : wr.heap.size ≤ w2.heap.size := t1; omega
        have hcellV : V.cell? ⟨b, o + k, none⟩ = some (.int .u16 (gi l k)) := (hBV.cell (p := ⟨b, o + k, none⟩) hlt).trans hcw
        obtain ⟨A5', c5', hv5, hi5, hge5⟩ := SIn.of_own HOV.out
        injection hv5 with e1 _ e2
        subst e1 e2
        have HI5 := Lib.hid hi5
        clear hi5 hge5 C2 F2 B2 L2 BR CR FR LR hkV hb2 H5 H6 HF5 HF6 HO HR3 HR4 HNe hcell
        go_wp2_with fail
        refine (without_any _ _ _ (Wl.arr l k) _ _ HI5.out.1 (by omega)).mono ?_
        rintro e w3 ⟨v3, rfl, hown3, hb3⟩
        obtain ⟨A8, c8, rfl⟩ := own_slice hown3
        clear hown3
        have B3 := BV.later hb3
        have hB3 : Below w.heap.size w w3 := below_step hBV.size hBV hb3
        have H53 := Lib.hid (H5V.out.later hb3)
        have H63 := Lib.hid (H6V.out.later hb3)
        have HO3 := Lib.hid (own_later HOV.out hb3)
        have hs3 : U.heap.size ≤ w3.heap.size := by have := hb3.size; omega
        have hcell3 : w3.cell? ⟨b, o + k, none⟩ = some (.int .u16 (gi l k)) := (hB3.cell (p := ⟨b, o + k, none⟩) hlt).trans hcw
        have hlen := Wl.without_eq_len (l := Wl.arr l k) (x := gi l k)
        by_cases hm : gi l k ∈ Wl.arr l k
        · have hne : (((Wl.without (Wl.arr l k) (gi l k)).length : Int) == ((Wl.arr l k).length : Int)) = false := by
            rw [beq_eq_false_iff_ne]
            intro h9
            exact (hlen.1 (by omega)) hm
          have hne2 : ¬ ((Wl.without (Wl.arr l k) (gi l k)).length = (Wl.arr l k).length) := fun h9 => (hlen.1 h9) hm
          have harr : Wl.arr l (k + 1) = Wl.arr l k := by rw [Wl.arr, if_pos hm]
          have HA := Lib.hid harr
          clear harr hm hlen CV FV
          go_wp2_with fail
          refine ⟨⟨k + 1, A6, A7, A5, n6, c6, n7, c7, c5, by omega, by go_num, rfl, ?_, B3, H53, H63, ?_, ?_, hB3, hs3⟩, by simp [intOf]; omega⟩
          · rw [HA.out]
          · rw [HA.out]; exact HO3
          · rw [HA.out]; exact HNV
        · have heq : (((Wl.without (Wl.arr l k) (gi l k)).length : Int) == ((Wl.arr l k).length : Int)) = true := by
            rw [beq_iff_eq]
            have := hlen.2 hm
            omega
          have heq2 : (Wl.without (Wl.arr l k) (gi l k)).length = (Wl.arr l k).length := hlen.2 hm
          have harr : Wl.arr l (k + 1) = Wl.arr l k ++ [gi l k] := by rw [Wl.arr, if_neg hm]
          have HA := Lib.hid harr
          clear harr hm hlen CV FV
          rw [heq2]
          clear heq2 heq
          go_wp2_with (at_builtin; refine wpList_append_rd _ rfl _ _ 22 rfl U.heap.size 3 i0 (.int .i64 0) 1 8 Try.underlying22 hi hz0 hz1 hz2 rfl (by decide) (.slice A5 (Wl.arr l k).length c5) (Wl.arr l k).length ((Wl.arr l k).map (Value.int .i64)) rfl (own_alloc HO3.out _) (some ⟨w3.heap.size, 0, none⟩) 1 1 [.int .i64 (gi l k)] rfl (Rd.new1 _ _ _ _ rfl) (fun h => by cases h) (by intro u hu; simp at hu; subst hu; rfl) (Wl.arr l (k + 1)).length (by rw [HA.out]; simp) ((Wl.arr l (k + 1)).map (Value.int .i64)) (by rw [HA.out]; simp) (by rw [HA.out]; unfold maxLen; simp; omega) (by rw [HA.out]; simp; omega) (by simp; omega) ?_)
          intro A9 c9 w4 hown4 hk4 hat4
          have hX4 : Hid (∀ y ∈ (Value.slice A5 (Wl.arr l k).length c5).ownBlock.toList, U.heap.size ≤ y) := fun y hy => own_ge HO3.out (by simpa using hy)
          have B4 := hk4.blk (fun hy => by have := hX4.out g hy; omega) (B3.alloc _)
          have hBa : Below w.heap.size w (w3.alloc (.cells #[.int .i64 (gi l k)] 3)) := hB3.alloc hB3.size _
          have hB4 : Below w.heap.size w w4 := hk4.below hBa hBa.size (fun y hy => by have := hX4.out y hy; have := hBU.size; omega)
          have H54 := Lib.hid ((H53.out.alloc (.cells #[.int .i64 (gi l k)] 3)).keptX hk4 (fun hp a ha hy => by have := H53.out.1.1; simp at this; omega))
          have H64 := Lib.hid ((H63.out.alloc (.cells #[.int .i64 (gi l k)] 3)).keptX hk4 (fun hp a ha hy => HNV.out a.block (by simpa using hy) a ha rfl))
          have HN4 : Hid (∀ h, (Value.slice A9 (Wl.arr l (k + 1)).length c9).ownBlock = some h → ∀ a, A7 = some a → a.block ≠ h) := fun h hh a ha => by
            rcases hat4 h hh with h9 | h9
            · exact HNV.out h h9 a ha
            · have t1 := H63.out.inW (by rw [HA.out]; simp) ha
              have t2 : (w3.alloc (.cells #[.int .i64 (gi l k)] 3)).heap.size = w3.heap.size + 1 := by simp
              omega
          have hs4 : U.heap.size ≤ w4.heap.size := by have := hk4.size; simp at this; omega
          have HO4 := Lib.hid hown4
          clear hown4 hk4 hat4
          go_wp2_with fail
          exact ⟨⟨k + 1, A6, A7, A9, n6, c6, n7, c7, c9, by omega, by go_num, rfl, rfl, B4, H54, H64, HO4, HN4, hB4, hs4⟩, by simp [intOf]; omega⟩
    · obtain rfl : k = n := by omega
      have k1 : decide (k < k) = false := by simp
      have HV := Lib.hid (Wl.arr_valid HB.out k (by omega))
      obtain ⟨A5', c5', hv5, hi5, hge5⟩ := SIn.of_own HO.out
      injection hv5 with e1 _ e2
      subst e1 e2
      have HI5 := Lib.hid hi5
      clear hi5 hge5 HO HNe
      go_wp2_with fail
      refine (drain_s _ _ _ _ _ _ [] (Wl.arr l k) _ HR3.out.1 HR4.out.1 HR4.out.2.2.2).mono ?_
      rw [show Wl.items [] (Wl.arr l k) = Wl.arr l k by rw [Wl.items, if_pos (Wl.chk_of_valid HV.out)]]
      rintro e w3 ⟨A7, n7, c7, rfl, hx1, hb3⟩
      have H7 := Lib.hid hx1
      have hB3 : Below w.heap.size w w3 := below_step hBR.size hBR hb3
      have H5 := Lib.hid (HI5.out.later hb3)
      clear hx1
      go_wp2_with fail
      refine (equal_any _ _ _ _ _ _ (Wl.arr l k) (Wl.arr l k) _ H7.out.1 H5.out.1 H7.out.lenle H5.out.lenle).mono ?_
      rintro e w4 ⟨rfl, hb4⟩
      rw [decide_eq_true (rfl : Wl.arr l k = Wl.arr l k)]
      have hB4 : Below w.heap.size w w4 := below_step hB3.size hB3 hb4
      go_wp2_with fail
      refine (awake_any _).mono ?_
      rintro e w5 ⟨rfl, hb5⟩
      go_wp2_with fail
      go_ret
      exact ⟨rfl, below_step hB4.size hB4 hb5⟩
end Go.Proofs.Ythliphpcfnbmnaa
