/- The contract of the reference's Empty. -/
import Derived.Test.YtmbihjlflcjlnaaGreatZt
import Derived.Test.YtmbihjlflcjlnaaGreatZf
import Derived.Test.YtmbihjlflcjlnaaGreatKl
namespace Go.Df
open Go.RowKit
namespace If
/-- n rows of falsehoods, each in a block of its own beyond base. -/
def EmR (base : Nat) (tb : TypeId) (m : Nat) (bs : Nat → Nat) (n : Nat) (w : World) : Prop :=
  (∀ x, x < n → base ≤ bs x ∧ Tag w (bs x) tb ∧ ∀ i, i < m → w.cell? ⟨bs x, i, none⟩ = some (.bool false)) ∧ ∀ x y, x < n → y < n → bs x = bs y → x = y
theorem EmR.kept {base : Nat} {tb : TypeId} {m n : Nat} {bs : Nat → Nat} {X : List Nat} {w w' : World} (h : EmR base tb m bs n w) (hk : Kept X w w') (hX : ∀ x, x < n → bs x ∉ X) : EmR base tb m bs n w' :=
  ⟨fun x hx => by
    obtain ⟨h1, h2, h3⟩ := h.1 x hx
    exact ⟨h1, h2.same (hk.block _ h2.lt (hX x hx)), fun i hi => (hk.cell _ _ h2.lt (hX x hx)).trans (h3 i hi)⟩, h.2⟩
def updN (f : Nat → Nat) (n x : Nat) : Nat → Nat := fun i => if i = n then x else f i
theorem EmR.snoc {base : Nat} {tb : TypeId} {m n g : Nat} {bs : Nat → Nat} {w : World} (h : EmR base tb m bs n w) (hg : base ≤ g) (ht : Tag w g tb) (hc : ∀ i, i < m → w.cell? ⟨g, i, none⟩ = some (.bool false)) (hn : ∀ x, x < n → bs x ≠ g) : EmR base tb m (updN bs n g) (n + 1) w := by
  refine ⟨fun x hx => ?_, fun x y hx hy e => ?_⟩
  · unfold updN
    by_cases e : x = n
    · rw [if_pos e]; exact ⟨hg, ht, hc⟩
    · rw [if_neg e]; exact h.1 x (by omega)
  · unfold updN at e
    by_cases e1 : x = n
    · by_cases e2 : y = n
      · omega
      · rw [if_pos e1, if_neg e2] at e; exact absurd e.symm (hn y (by omega))
    · by_cases e2 : y = n
      · rw [if_neg e1, if_pos e2] at e; exact absurd e (hn x (by omega))
      · rw [if_neg e1, if_neg e2] at e; exact h.2 x y (by omega) (by omega) e
theorem rows_snoc (bs rc : Nat → Nat) (m n g c : Nat) : ((List.range n).map fun x => Value.slice (some ⟨bs x, 0, none⟩) m (rc x)) ++ [Value.slice (some ⟨g, 0, none⟩) m c] = (List.range (n + 1)).map fun x => Value.slice (some ⟨updN bs n g x, 0, none⟩) m (updN rc n c x) := by
  rw [List.range_succ, List.map_append]
  congr 1
  · refine List.map_congr_left fun x hx => ?_
    have : x ≠ n := by have := List.mem_range.1 hx; omega
    simp [updN, this]
  · simp [updN]
theorem rep_snoc (v : Value) (j : Nat) : List.replicate j v ++ [v] = List.replicate (j + 1) v := List.replicate_succ'.symm
end If
end Go.Df
namespace Go.Proofs.YtmbihjlflcjlnaaGreat
open Go.RowKit Go.Df Go.Df.If
attribute [local go_sem ↓] Go.wp_at_zero Go.wp_at_succ
theorem rowb_info : (Tryz.prog.info? 46).map (fun i => (i.zero, i.size, i.bytes)) = some (some (.slice none 0 0), 1, 24) := by kernel_rfl

set_option maxRecDepth 100000 in
set_option maxHeartbeats 8000000 in
theorem rempty_any (A1 A2 A3 A4 : Option Addr) (N c1 n2 c2 n3 c3 n4 c4 : Nat) (mn : Int) (F : Nat) (w : World) (hN1 : 0 < N) (hN8 : N ≤ 8192) (hF1 : 0 < F) (hF8 : F ≤ 1024) :
    Calls Tryz.prog 63 #[.agg #[.slice A1 N c1, .slice A2 n2 c2, .int .i64 mn, .int .i64 (F : Nat), .slice A3 n3 c3, .slice A4 n4 c4]] w fun e w' => ∃ X bs r c, e = .returned (tabV N F r c) ∧ TabM N F X bs r w' (fun _ _ _ => false) ∧ (∀ x ∈ X, w.heap.size ≤ x) ∧ w.heap.size ≤ r ∧ Below w.heap.size w w' := by
  obtain ⟨i0, hi, hz0, hz1, hz2⟩ := info_parts booli_info
  obtain ⟨i1, hj, hy0, hy1, hy2⟩ := info_parts rowb_info
  have hm1 : F * F ≤ 1024 * 1024 := Nat.mul_le_mul hF8 hF8
  have hm0 : 0 < F * F := Nat.mul_pos hF1 hF1
  obtain ⟨m, hm⟩ : ∃ m, F * F = m := ⟨_, rfl⟩
  have hmul : (F : Int) * (F : Int) = (m : Int) := by rw [← hm]; simp
  rw [hm] at hm1 hm0
  have HM := Lib.hid hm
  have x1 : IntKind.i64.wrap ((F : Int) * (F : Int)) = (m : Int) := by rw [hmul]; exact IntWalk.i64_in _ (by omega)
  clear hm hmul
  go_enter Tryz.func63, Tryz.ntmps63
  go_upto_region 1 with fail
  refine wp_named (fun W => ∃ b0 b1, w.heap.size = b0 ∧ w.heap.size + 1 = b1 ∧ Blk W b0 [.slice A1 N c1, .slice A2 n2 c2, .int .i64 mn, .int .i64 (F : Nat), .slice A3 n3 c3, .slice A4 n4 c4] ∧ Blk W b1 [.int .i64 0, .slice none 0 0] ∧ Below w.heap.size w W) ⟨_, _, rfl, rfl, ?_, ?_, ?_⟩ ?_
  · exact (Blk.new _ _ _ _ (by first | rfl | simp)).alloc _
  · exact Blk.new _ _ _ _ (by first | rfl | simp)
  · go_grown
  rintro W ⟨b0, b1, e0, e1, B0, B1, hB⟩
  rw [e1, e0]
  have G0 : w.heap.size ≤ b0 := by omega
  have n01 : b0 ≠ b1 := by omega
  have G1 : w.heap.size ≤ b1 := by omega
  have n10 : b1 ≠ b0 := by omega
  clear e0 e1
  have ⟨L0, C0, F0⟩ := B0
  have ⟨L1, C1, F1⟩ := B1
  go_upto_region 3 with fail
  refine wp_named (fun V => ∃ g, W.heap.size = g ∧ Blk V g [.int .i64 (F : Nat), .slice none 0 0] ∧ Kept [] W V) ⟨_, rfl, Blk.new _ _ _ _ rfl, (Kept.refl _ _).alloc _⟩ ?_
  rintro V ⟨g, eg, Bg, hkV⟩
  rw [eg]
  have hgV : g < V.heap.size := Bg.1
  have hb0g : b0 ≠ g := by omega
  have hb1g : b1 ≠ g := by omega
  have hgw : w.heap.size ≤ g := by have := hB.size; omega
  have B0V := hkV.blk (by simp) B0
  have B1V := hkV.blk (by simp) B1
  have hwV : Kept [] w V := ((Kept.refl [] w).call hB).next hkV (by simp)
  have HBg := Lib.hid Bg
  have ⟨L0V, C0V, F0V⟩ := B0V
  clear C0 F0 C1 F1 eg Bg
  go_wp2_with fail
  go_loopw [4] (fun s4 wr => ∃ (n : Nat) (A : Option Addr) (cA : Nat) (bs rc : Nat → Nat), n ≤ N ∧ s4 = .int .i64 n ∧ Kept [g] V wr ∧ Hid (Blk wr g [.int .i64 (F : Nat), .slice A n cA]) ∧ Hid (wr.ownsRow V.heap.size 46 1 (.slice A n cA) n ((List.range n).map fun x => Value.slice (some ⟨bs x, 0, none⟩) m (rc x))) ∧ Hid (EmR V.heap.size 4 m bs n wr)) (fun s4 _ => N - (intOf s4).toNat)
  case atStart => exact ⟨0, none, 0, fun _ => 0, fun _ => 0, Nat.zero_le _, rfl, Kept.refl _ _, HBg, Lib.hid (World.ownsRow_nil _ _ _ _), Lib.hid ⟨fun x h => absurd h (by omega), fun x y h => absurd h (by omega)⟩⟩
  case round =>
  clear C0V F0V HBg
  obtain ⟨n, A, cA, bs, rc, hn, rfl, hkr, BG, own, EM⟩ := hrel
  have BR0 := hkr.blk (by simpa using hb0g) B0V
  have ⟨L0r, C0r, F0r⟩ := BR0
  have hsz := hkr.size
  by_cases hlt : n < N
  case neg =>
    obtain rfl : n = N := by omega
    have ⟨LGr, CGr, FGr⟩ := BG.out
    have BR1 := hkr.blk (by simpa using hb1g) B1V
    have ⟨L1r, C1r, F1r⟩ := BR1
    obtain ⟨r, cr, hv, hbr, hrl, -, -, hcell, -⟩ := own_cellsT own.out hN1
    have htr : Tag wr r 46 := own_tag own.out (by rw [hv]; rfl)
    injection hv with e1 e2 e3
    subst e1
    subst e3
    have HCL := Lib.hid hcell
    have HTR := Lib.hid htr
    clear hcell htr
    go_wp2_with fail
    refine retNamedT (fun Y => Blk Y b1 [.int .i64 (F : Nat), .slice (some ⟨r, 0, none⟩) n cA] ∧ Kept [b1] wr Y) ⟨(BR1.set 0 _).set 1 _, ((Kept.refl [b1] wr).set b1 0 _ (.inl (by simp))).set b1 1 _ (.inl (by simp))⟩ ?_
    rintro Y ⟨BY, hkY⟩
    have ⟨LY, CY, FY⟩ := BY
    have hbsne : ∀ x, x < n → bs x ≠ b1 := fun x hx => by have h1 := (EM.out.1 x hx).1; have h2 := B1V.1; omega
    have EMY := EM.out.kept hkY (fun x hx => by simpa using hbsne x hx)
    have hrb1 : r ≠ b1 := by have h2 := B1V.1; omega
    have hwr : Kept [] w wr := kept_fresh hwV hkr (by simpa using hgw)
    refine bodyPost_ret (by simp [results, Tryz.results63, go_sem, CY]; try rfl) rfl ?_
    refine ⟨(List.range n).map bs, bs, r, ⟨cA, rfl⟩, ?_, fun x hx => ?_, by have h2 := hwV.size; omega, (kept_fresh hwr hkY (by simpa using G1)).toBelow⟩
    · refine ⟨Nat.lt_of_lt_of_le hrl hkY.size, fun h => ?_, fun x hx => ?_, fun x hx => List.mem_map.2 ⟨x, List.mem_range.2 hx, rfl⟩, fun x hx => ?_, fun x a d hx ha hd => ?_, fun x i hx => ?_, EMY.2⟩
      · obtain ⟨x, hx, e⟩ := List.mem_map.1 h
        have h1 := (EM.out.1 x (List.mem_range.1 hx)).2.1
        exact absurd e (h1.ne HTR.out (by decide))
      · refine ⟨rc x, (hkY.cell r _ hrl (by simpa using hrb1)).trans ?_⟩
        rw [HCL.out x (by omega), HM.out]
        simp [hx]
      · obtain ⟨y, hy, rfl⟩ := List.mem_map.1 hx
        exact (EMY.1 y (List.mem_range.1 hy)).2.1.lt
      · exact (EMY.1 x hx).2.2 _ (by rw [← HM.out]; exact cell_lt ha hd)
      · exact (EMY.1 x hx).2.1.frozen i
    · obtain ⟨y, hy, rfl⟩ := List.mem_map.1 hx
      have h1 := (EM.out.1 y (List.mem_range.1 hy)).1
      have h2 := hwV.size
      omega
  have hn9 : (n : Int) < (N : Int) := by omega
  have HXA : Hid (∀ y ∈ (Value.slice A n cA).ownBlock.toList, V.heap.size ≤ y) := (fun y hy => own_ge own.out (by simpa using hy))
  have xg : g ∉ (Value.slice A n cA).ownBlock.toList := fun hm => by have := HXA.out g hm; omega
  go_wp2_with fail
  go_loopw [5, 6] (fun s5 s6 wq => ∃ (j : Nat) (A' : Option Addr) (c' : Nat), j ≤ m ∧ s5 = .slice A' j c' ∧ s6 = .int .i64 j ∧ Kept [] wr wq ∧ Hid (wq.ownsRow wr.heap.size 4 1 (.slice A' j c') j (List.replicate j (Value.bool false)))) (fun _ s6 _ => m - (intOf s6).toNat)
  case atStart => exact ⟨0, none, 0, Nat.zero_le _, rfl, rfl, Kept.refl _ _, Lib.hid (World.ownsRow_nil _ _ _ _)⟩
  case round =>
  rename World => wq
  clear C0r F0r
  obtain ⟨j, A', c', hj', rfl, rfl, hkq, ownq⟩ := hrel
  have ⟨L0q, C0q, F0q⟩ := hkq.blk (by simp) BR0
  have hsq := hkq.size
  by_cases hltj : j < m
  · have HAP := Lib.hid (rep_snoc (Value.bool false) j)
    have hj9 : (j : Int) < (m : Int) := by omega
    go_wp2_with (at_builtin; refine wpList_append_rd _ rfl _ _ 46 rfl wr.heap.size 4 i0 (.bool false) 1 1 Tryz.underlying46 hi hz0 hz1 hz2 rfl (by decide) (.slice A' j c') j (List.replicate j (Value.bool false)) rfl (own_keptT (X := []) ownq.out ((Kept.refl _ _).alloc _) (by simp)) (some ⟨wq.heap.size, 0, none⟩) 1 1 [.bool false] rfl (Rd.new1 _ _ _ _ rfl) (fun h => by cases h) (by intro u hu; simp at hu; subst hu; rfl) (j + 1) rfl (List.replicate (j + 1) (Value.bool false)) HAP.out (by unfold maxLen; omega) (by omega) (by simp; omega) ?_; intro A9 c9 w4 hown4 hk4 hat4; have HX : Hid (∀ y ∈ (Value.slice A' j c').ownBlock.toList, wr.heap.size ≤ y) := (fun y hy => own_ge ownq.out (by simpa using hy)); have hk5 := Lib.hid ((hkq.alloc (.cells #[.bool false] 4)).next hk4 (fun y hy => Or.inr (HX.out y hy))); have HO4 := Lib.hid hown4; clear hown4 hk4 hat4)
    exact ⟨⟨j + 1, A9, c9, by omega, rfl, by go_num, hk5.out, HO4⟩, by simp [intOf]; omega⟩
  obtain rfl : j = m := by omega
  obtain ⟨g', cr, hv, hbr, hgl, -, -, hcell, -⟩ := own_cellsT ownq.out hm0
  have htg : Tag wq g' 4 := own_tag ownq.out (by rw [hv]; rfl)
  injection hv with e1 e2 e3
  subst e1
  subst e3
  have HCL : Hid (∀ i, i < j → wq.cell? ⟨g', i, none⟩ = some (.bool false)) := Lib.hid (fun i hi => by rw [hcell i (by omega), List.getElem?_replicate, if_pos hi])
  have HTG := Lib.hid htg
  have OWQ := Lib.hid (own_keptT (X := []) own.out hkq (by simp))
  have ⟨LGq, CGq, FGq⟩ := hkq.blk (by simp) BG.out
  have BGq := Lib.hid (hkq.blk (by simp) BG.out)
  have EMq := Lib.hid (EM.out.kept hkq (by simp))
  have HAB := Lib.hid (rows_snoc bs rc j n g' c')
  have hgq : g < wq.heap.size := by omega
  clear hcell htg
  go_wp2_with (at_builtin; refine wpList_append_rd _ rfl _ _ 60 rfl V.heap.size 46 i1 (.slice none 0 0) 1 24 Tryz.underlying60 hj hy0 hy1 hy2 rfl (by decide) (.slice A n cA) n _ rfl (own_keptT (X := []) OWQ.out ((Kept.refl _ _).alloc _) (by simp)) (some ⟨wq.heap.size, 0, none⟩) 1 1 [.slice (some ⟨g', 0, none⟩) j c'] rfl (Rd.new1 _ _ _ _ rfl) (fun h => by cases h) (by intro u hu; simp at hu; subst hu; rfl) (n + 1) rfl _ HAB.out (by unfold maxLen; omega) (by omega) (by simp; omega) ?_; intro A9 c9 w4 hown4 hk4 hat4; have hkA : Kept (Value.slice A n cA).ownBlock.toList wq w4 := ((Kept.refl _ wq).alloc _).next hk4 (fun y hy => Or.inl hy); have ⟨LG4, CG4, FG4⟩ := hkA.blk xg BGq.out; have HO4 := Lib.hid hown4; have HKA := Lib.hid hkA; clear hown4 hk4 hat4)
  have hks : Kept [g] w4 (w4.setCell ⟨g, 1, none⟩ (.slice A9 (n + 1) c9)) := (Kept.refl [g] w4).set g 1 _ (.inl (by simp))
  have hbA : ∀ x, x < n + 1 → updN bs n g' x ∉ (Value.slice A n cA).ownBlock.toList := fun x hx hm => by
    have h1 : (Value.slice A n cA).ownBlock = some (updN bs n g' x) := by simpa using hm
    have h2 := own_tag OWQ.out h1
    unfold updN at h2
    by_cases e : x = n
    · rw [if_pos e] at h2; exact absurd rfl (HTG.out.ne h2 (by decide))
    · rw [if_neg e] at h2; exact absurd rfl ((EMq.out.1 x (by omega)).2.1.ne h2 (by decide))
  have EM2 := EMq.out.snoc (g := g') (by omega) HTG.out HCL.out (fun x hx e => by
    have h1 := (EM.out.1 x hx).2.1.lt
    omega)
  have EM3 := (EM2.kept HKA.out hbA).kept hks (fun x hx => by have h1 := (EM2.1 x hx).1; simp; omega)
  have OW3 := own_keptT HO4.out hks (fun y hy => by have := own_ge HO4.out hy; simp; omega)
  exact ⟨⟨n + 1, A9, c9, updN bs n g', updN rc n c', by omega, by go_num, ((hkr.next hkq (by simp)).next HKA.out (fun y hy => Or.inr (HXA.out y hy))).next hks (fun y hy => Or.inl hy), Lib.hid ((HKA.out.blk xg BGq.out).set 1 _), Lib.hid OW3, Lib.hid EM3⟩, by simp [intOf]; omega⟩
end Go.Proofs.YtmbihjlflcjlnaaGreat
