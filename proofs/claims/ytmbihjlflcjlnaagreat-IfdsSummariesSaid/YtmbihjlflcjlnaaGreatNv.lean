/- A pack of texts: Nh Ni. -/
import Derived.Test.YtmbihjlflcjlnaaGreatNy
import Derived.Test.YtmbihjlflcjlnaaGreatNx
import Derived.Test.YtmbihjlflcjlnaaGreatZe
import Derived.Test.YtmbihjlflcjlnaaGreatZk
import Derived.Test.YtmbihjlflcjlnaaGreatKq
/- The contract of the reference's Paths; equal lists of pairs; the walk of the law IfdsPaths. -/
namespace Go.Proofs.YtmbihjlflcjlnaaGreat
open Go.RowKit Go.Df Go.Df.If
attribute [local go_sem ↓] Go.wp_at_zero Go.wp_at_succ

set_option maxRecDepth 100000 in
set_option maxHeartbeats 4000000 in
theorem rpaths_ok {p : Pb} (A1 A2 A3 A4 : Option Addr) (n1 c1 n2 c2 n3 c3 n4 c4 mN F : Nat) (w : World) (hG : Gr w A1 n1 A2 n2 p.ns p.es) (hP : PbW p n1 F mN A1 A2 A3 A4 n2 n3 n4 w) :
    Calls Tryz.prog 9 #[.agg #[.slice A1 n1 c1, .slice A2 n2 c2, .int .i64 mN, .int .i64 (F : Nat), .slice A3 n3 c3, .slice A4 n4 c4]] w fun e w' => ∃ A cA, e = .returned (.tuple #[.slice A n1 cA, .int .i64 0]) ∧ Flw w' A n1 ((List.range n1).map (pairL p)) ∧ Below w.heap.size w w' := by
  obtain ⟨i0, hinf0, hz0, hz1, hz2⟩ := info_parts prowg_info
  have HG := Lib.hid hG
  have HP := Lib.hid hP
  have hn4 := hP.h4
  have hN8 := hP.N8
  have hF8 := hP.F8
  have hF1 := hP.F1
  have HPE : Hid (pbErr ⟨p.ns, p.es, mN, F, p.fl, p.sd⟩ = 0) := Lib.hid (by
    have h9 : pbErr ⟨p.ns, p.es, p.mn, p.F, p.fl, p.sd⟩ = 0 := pb_ok (p := p) hP.ok.sup (by have := hP.ok.f1; have := hP.ok.f2; omega) hP.ok.len (fun x hx => by
      have h1 := hP.ok.fl x hx
      have h2 := fl_end (l := gf p.fl x) hP.ok.f1 hP.ok.f2 h1.1 h1.2.1
      rw [h2, if_neg]
      rintro (h3 | h3)
      · have := h1.2.2.1; omega
      · exact h3 h1.2.2.2) hP.ok.sd
    rw [← hP.hm, ← hP.hF]
    exact h9)
  clear hG hP
  go_enter Tryz.func9, Tryz.ntmps9
  go_upto_region 1 with fail
  refine wp_named (fun W => ∃ b0, w.heap.size = b0 ∧ Blk W b0 [.slice A1 n1 c1, .slice A2 n2 c2, .int .i64 mN, .int .i64 (F : Nat), .slice A3 n3 c3, .slice A4 n4 c4] ∧ Below w.heap.size w W) ⟨_, rfl, ?_, ?_⟩ ?_
  · exact Blk.new _ _ _ _ (by first | rfl | simp)
  · go_grown
  rintro W ⟨b0, e0, B0, hB⟩
  rw [e0]
  have G0 : w.heap.size ≤ b0 := by omega
  clear e0
  have ⟨L0, C0, F0⟩ := B0
  go_upto_region 2 with (go_at_call 16; refine (rifdsck_any A1 A2 A3 A4 n1 c1 n2 c2 n3 c3 n4 c4 mN F p.ns p.es p.fl p.sd _ (HG.out.nd.later hB) (HG.out.ed.later hB) (HP.out.fl.later hB) (HP.out.sd.later hB) (by omega) HG.out.wn HG.out.we).mono ?_; rw [HPE.out]; rintro e w1 ⟨rfl, hb1⟩)
  have hk1 : Kept [] W w1 := (Kept.refl _ _).call hb1
  have B01 := hk1.blk (by simp) B0
  have ⟨L01, C01, F01⟩ := B01
  have hB1 := hk1.below hB hB.size (by simp)
  clear C0 F0
  go_upto_region 5 with (go_at_call 27; refine (redges_any c1 c2 c3 c4 _ (HP.out.later hB1)).mono ?_; rintro e w2 ⟨X, bs, r, c, T, rfl, ht2, hpe2, hb2⟩; have T2 := Lib.hid ht2; have HT2 := Lib.hid hpe2; clear ht2 hpe2)
  refine wp_named (fun V => ∃ g, w2.heap.size = g ∧ Blk V g [.int .i64 (F : Nat), .slice (some ⟨r, 0, none⟩) n1 c] ∧ Kept [] w2 V) ⟨_, rfl, Blk.new _ _ _ _ rfl, (Kept.refl _ _).alloc _⟩ ?_
  rintro V ⟨g, eg, Bg, hkV⟩
  rw [eg]
  have hk1V : Kept [] w1 V := ((Kept.refl [] w1).call hb2).next hkV (by simp)
  have hwV : Below w.heap.size w V := hk1V.below hB1 hB1.size (by simp)
  have TV := Lib.hid (T2.out.kept0 hkV)
  have B0V := hk1V.blk (by simp) B01
  have HBg := Lib.hid Bg
  have ⟨LGV, CGV, FGV⟩ := Bg
  have ⟨L0V, C0V, F0V⟩ := B0V
  clear C01 F01 eg Bg
  go_wp2_with fail
  go_loopw [6, 7] (fun s6 s7 wr => ∃ (n : Nat) (A : Option Addr) (cA : Nat) (R : Nat → Option Addr × Nat × Nat), n ≤ n1 ∧ s7 = .int .i64 n ∧ s6 = .slice A n cA ∧ Kept [] V wr ∧ Hid (wr.ownsRow V.heap.size 40 1 (.slice A n cA) n ((List.range n).map fun x => Value.slice (R x).1 (R x).2.1 (R x).2.2)) ∧ Hid (RwP V.heap.size 76 R (fun x => tabQ F T x F) n wr)) (fun _ s7 _ => n1 - (intOf s7).toNat)
  case atStart => exact ⟨0, none, 0, fun _ => (none, 0, 0), Nat.zero_le _, rfl, rfl, Kept.refl _ _, Lib.hid (World.ownsRow_nil _ _ _ _), Lib.hid (fun x h => absurd h (by omega))⟩
  case round =>
  clear CGV FGV C0V F0V
  obtain ⟨n, A, cA, R, hn, rfl, rfl, hkr, OWN, RW⟩ := hrel
  have ⟨LGr, CGr, FGr⟩ := hkr.blk (by simp) HBg.out
  have ⟨L0r, C0r, F0r⟩ := hkr.blk (by simp) B0V
  by_cases hlt : n < n1
  case neg =>
    obtain rfl : n = n1 := by omega
    clear hlt
    go_wp2_with fail
    go_ret2
    refine ⟨A, cA, rfl, ?_, hkr.below hwV hwV.size (by simp)⟩
    have e2 : (List.range n).map (fun x => tabQ F T x F) = (List.range n).map (pairL p) := List.map_congr_left fun x _ => pairL_tab HP.out.ok HP.out.Fn HT2.out x
    rw [← e2]
    refine ⟨by simp, fun h0 => ?_⟩
    obtain ⟨q, cq, hv, hbq, hql, -, -, hcell, -⟩ := own_cellsT OWN.out h0
    injection hv with e1 _ e3
    refine ⟨q, 0, e1, hql, fun x hx => ?_⟩
    obtain ⟨h1, h2, -⟩ := RW.out x hx
    refine ⟨(R x).1, (R x).2.1, (R x).2.2, by rw [Nat.zero_add, hcell x (by omega)]; simp [hx], h2, ?_⟩
    have e9 : gf ((List.range n).map fun x => tabQ F T x F) x = tabQ F T x F := by simp [gf, hx]
    rw [e9]
    exact h1
  have hn9 : (n : Int) < (n1 : Int) := by omega
  have TR := Lib.hid (TV.out.kept0 hkr)
  have hsr := hkr.size
  go_wp2_with (first
    | (go_at_call 28; refine (rpairsat_any c n _ TR.out hN8 hF8 hlt).mono ?_; rintro e w6 ⟨A6, k6, c6, rfl, hk6, hp6, hf6, hb6⟩; have HP6 := Lib.hid hp6; have HF6 := Lib.hid hf6; have hkr6 := Lib.hid ((Kept.refl [] wr).call hb6); have OW6 := Lib.hid (own_keptT (X := []) OWN.out hkr6.out (by simp)); have RW6 := Lib.hid ((RW.out.kept hkr6.out (fun _ _ _ => by simp)).snoc (c := c6) (show Prs w6 A6 k6 ((fun x => tabQ F T x F) n) from HP6.out) hk6 (fun a ha => ⟨by have := (HF6.out a ha).1; omega, (HF6.out a ha).2⟩)); have HAP := Lib.hid (rowsP_snoc R n k6 c6 A6); have hs6 := hkr6.out.size; clear hp6 hf6)
    | (at_builtin; refine wpList_append_rd _ rfl _ _ 31 rfl V.heap.size 40 i0 (.slice none 0 0) 1 24 Tryz.underlying31 hinf0 hz0 hz1 hz2 rfl (by decide) (.slice A n cA) n _ rfl (own_keptT (X := []) OW6.out ((Kept.refl _ _).alloc _) (by simp)) (some ⟨w6.heap.size, 0, none⟩) 1 1 [.slice A6 k6 c6] rfl (Rd.new1 _ _ _ _ rfl) (fun h => by cases h) (by intro u hu; simp at hu; subst hu; rfl) (n + 1) rfl _ HAP.out (by unfold maxLen; omega) (by omega) (by simp; omega) ?_; intro A8 c8 w8 hown8 hk8 hat8; have HK8 := Lib.hid hk8; have HO8 := Lib.hid hown8; clear hown8 hk8 hat8))
  have hk68 : Kept (Value.slice A n cA).ownBlock.toList w6 w8 := ((Kept.refl _ w6).alloc _).next HK8.out (fun y hy => Or.inl hy)
  have hkV8 : Kept [] V w8 := (keptTrans hkr hkr6.out).next hk68 (fun y hy => Or.inr (own_ge OW6.out (by simpa using hy)))
  have RW8 := RW6.out.kept hk68 (fun b hb _ hm => by
    have h1 : (Value.slice A n cA).ownBlock = some b := by simpa using hm
    exact absurd rfl (hb.ne (own_tag OW6.out h1) (by decide)))
  exact ⟨⟨n + 1, A8, c8, _, by omega, by go_num, rfl, hkV8, HO8, Lib.hid RW8⟩, by simp [intOf]; omega⟩
end Go.Proofs.YtmbihjlflcjlnaaGreat
/- Equal lists of pairs; the walk of the law IfdsPaths. -/
namespace Go.Proofs.YtmbihjlflcjlnaaGreat
open Go.RowKit Go.Df Go.Df.If
attribute [local go_sem ↓] Go.wp_at_zero Go.wp_at_succ

set_option maxRecDepth 100000 in
set_option maxHeartbeats 4000000 in
theorem psame_eq (A B : Option Addr) (n a b : Nat) (l : List Pr) (w : World) (hA : Prs w A n l) (hB : Prs w B n l) (hn : n ≤ 9223372036854775807) :
    Calls Tryz.prog 14 #[.slice A n a, .slice B n b] w fun e w' => e = .returned (.bool true) ∧ Below w.heap.size w w' := by
  have HA := Lib.hid hA
  have HB := Lib.hid hB
  clear hA hB
  go_enter Tryz.func14, Tryz.ntmps14
  go_wp2_with fail
  go_loopw [5] (fun s5 wr => ∃ i : Nat, i ≤ n ∧ s5 = .int .i64 i ∧ Kept [] w wr) (fun s5 _ => n - (intOf s5).toNat)
  case atStart => exact ⟨0, Nat.zero_le _, rfl, Kept.refl _ _⟩
  case round =>
  obtain ⟨i, hi, rfl, hkr⟩ := hrel
  by_cases hlt : i < n
  · obtain ⟨b1, o1, rfl, hl1, hc1⟩ := HA.out.2 (by omega)
    obtain ⟨b2, o2, rfl, hl2, hc2⟩ := HB.out.2 (by omega)
    have r1 := (hkr.cell b1 _ hl1 (by simp)).trans (hc1 i hlt).1
    have r2 := (hkr.cell b2 _ hl2 (by simp)).trans (hc2 i hlt).1
    have r3 := (hkr.cell b1 _ hl1 (by simp)).trans (hc1 i hlt).2
    have r4 := (hkr.cell b2 _ hl2 (by simp)).trans (hc2 i hlt).2
    obtain ⟨x, y, hx⟩ : ∃ x y, gp l i = ⟨x, y⟩ := ⟨_, _, rfl⟩
    rw [hx] at r1 r2 r3 r4
    have l1 : b1 < wr.heap.size := Nat.lt_of_lt_of_le hl1 hkr.size
    have l2 : b2 < wr.heap.size := Nat.lt_of_lt_of_le hl2 hkr.size
    have hi9 : (i : Int) < (n : Int) := by omega
    clear hc1 hc2 hx
    go_upto_region 6 with fail
    go_quiet (fail)
    go_wp2_with fail
    exact ⟨⟨i + 1, by omega, by go_num, hkr.drewN _⟩, by simp [intOf]; omega⟩
  · obtain rfl : i = n := by omega
    go_wp2_with fail
    go_ret
    exact ⟨rfl, hkr.toBelow⟩

set_option maxRecDepth 100000 in
set_option maxHeartbeats 4000000 in
theorem lists_eq (A B : Option Addr) (n a b : Nat) (L : List (List Pr)) (w : World) (hA : Flw w A n L) (hB : Flw w B n L) (hn : n ≤ 9223372036854775807) (hL : ∀ i, (gf L i).length ≤ 9223372036854775807) :
    Calls Tryz.prog 10 #[.slice A n a, .slice B n b] w fun e w' => e = .returned (.bool true) ∧ Below w.heap.size w w' := by
  have HA := Lib.hid hA
  have HB := Lib.hid hB
  have HL := Lib.hid hL
  clear hA hB hL
  go_enter Tryz.func10, Tryz.ntmps10
  go_wp2_with fail
  go_loopw [5] (fun s5 wr => ∃ i : Nat, i ≤ n ∧ s5 = .int .i64 i ∧ Kept [] w wr) (fun s5 _ => n - (intOf s5).toNat)
  case atStart => exact ⟨0, Nat.zero_le _, rfl, Kept.refl _ _⟩
  case round =>
  obtain ⟨i, hi, rfl, hkr⟩ := hrel
  by_cases hlt : i < n
  · obtain ⟨b1, o1, rfl, hl1, hc1⟩ := HA.out.2 (by omega)
    obtain ⟨b2, o2, rfl, hl2, hc2⟩ := HB.out.2 (by omega)
    obtain ⟨Ai, ni, ci, h1, -, h3⟩ := hc1 i hlt
    obtain ⟨Bi, mi, di, k1, -, k3⟩ := hc2 i hlt
    obtain rfl : ni = mi := h3.1.symm.trans k3.1
    have r1 := (hkr.cell b1 _ hl1 (by simp)).trans h1
    have r2 := (hkr.cell b2 _ hl2 (by simp)).trans k1
    have HP1 := Lib.hid h3
    have HP2 := Lib.hid k3
    have hni : ni ≤ 9223372036854775807 := by have h8 := HL.out i; have h9 := h3.1; omega
    have l1 : b1 < wr.heap.size := Nat.lt_of_lt_of_le hl1 hkr.size
    have l2 : b2 < wr.heap.size := Nat.lt_of_lt_of_le hl2 hkr.size
    have hi9 : (i : Int) < (n : Int) := by omega
    clear hc1 hc2 h1 h3 k1 k3
    go_upto_region 6 with fail
    refine wp_region_E 9 (fun w' => SX0 wr w') (by kernel_rfl) (by (repeat' first | (with_reducible assumption) | (with_reducible exact SX0.init _) | (with_reducible exact SX0.refl _) | (with_reducible refine SX0.alloc ?_ _) | (with_reducible refine SX0.call ?_ (by assumption)) | (with_reducible refine SX0.set ?_ _ _ _ ?_) | (with_reducible refine SX0.drew ?_) | (simp; done) | omega | (simp; omega))) (fun hHeld => ?_)
    refine WE_take 0 (v := ?_) rfl (by kernel_rfl) (fun _ _ _ h => h) (Or.inl ⟨by rfl, ?_⟩) (by assumption) ?_; rotate_left; (· intro w9 hSw; (try dsimp only at hSw); go_simp; try with_reducible rfl); (try simp only [Act.put, List.setIfInBounds_toArray, List.set_cons_zero, List.set_cons_succ])
    refine WE_take 1 (v := ?_) rfl (by kernel_rfl) (fun _ _ _ h => h) (Or.inl ⟨by rfl, ?_⟩) (by assumption) ?_; rotate_left; (· intro w9 hSw; (try dsimp only at hSw); go_simp; try with_reducible rfl); (try simp only [Act.put, List.setIfInBounds_toArray, List.set_cons_zero, List.set_cons_succ])
    refine WE_take 2 (v := ?_) rfl (by kernel_rfl) (fun _ _ _ h => h) (Or.inl ⟨by rfl, ?_⟩) (by assumption) ?_; rotate_left; (· intro w9 hSw; (try dsimp only at hSw); go_simp; try with_reducible rfl); (try simp only [Act.put, List.setIfInBounds_toArray, List.set_cons_zero, List.set_cons_succ])
    refine WE_take 3 (v := ?_) rfl (by kernel_rfl) (fun _ _ _ h => h) (Or.inl ⟨by rfl, ?_⟩) (by assumption) ?_; rotate_left; (· intro w9 hSw; (try dsimp only at hSw); go_simp; try with_reducible rfl); (try simp only [Act.put, List.setIfInBounds_toArray, List.set_cons_zero, List.set_cons_succ])
    refine WE_take 4 (v := ?_) rfl (by kernel_rfl) (fun _ _ _ h => h) (Or.inl ⟨by rfl, ?_⟩) (by assumption) ?_; rotate_left; (· intro w9 hSw; (try dsimp only at hSw); go_simp; try with_reducible rfl); (try simp only [Act.put, List.setIfInBounds_toArray, List.set_cons_zero, List.set_cons_succ])
    refine WE_take 5 (v := ?_) rfl (by kernel_rfl) (fun _ _ _ h => h) (Or.inl ⟨by rfl, ?_⟩) (by assumption) ?_; rotate_left; (· intro w9 hSw; (try dsimp only at hSw); go_simp; try with_reducible rfl); (try simp only [Act.put, List.setIfInBounds_toArray, List.set_cons_zero, List.set_cons_succ])
    refine WE_take 6 (v := ?_) rfl (by kernel_rfl) (fun _ _ _ h => h) (Or.inl ⟨by rfl, ?_⟩) (by assumption) ?_; rotate_left; (· intro w9 hSw; (try dsimp only at hSw); go_simp; try with_reducible rfl); (try simp only [Act.put, List.setIfInBounds_toArray, List.set_cons_zero, List.set_cons_succ])
    refine WE_take 7 (v := ?_) rfl (by kernel_rfl) (fun _ _ _ h => h) (Or.inl ⟨by rfl, ?_⟩) (by assumption) ?_; rotate_left; (· intro w9 hSw; (try dsimp only at hSw); go_simp; try with_reducible rfl); (try simp only [Act.put, List.setIfInBounds_toArray, List.set_cons_zero, List.set_cons_succ])
    refine WE_step 8 rfl (by kernel_rfl) (fun K hK => ?_)
    go_simp
    (go_at_call 14; refine (psame_eq Ai Bi ni ci di _ _ (HP1.out.later (keptTrans hkr hHeld.1).toBelow) (HP2.out.later (keptTrans hkr hHeld.1).toBelow) hni).mono ?_; rintro e w3 ⟨rfl, hb3⟩)
    (try go_wp2_with fail)
    refine hK.out _ _ ?_ (fun hHeld => ?_)
    · (repeat' first | (with_reducible assumption) | (with_reducible exact SX0.init _) | (with_reducible exact SX0.refl _) | (with_reducible refine SX0.alloc ?_ _) | (with_reducible refine SX0.call ?_ (by assumption)) | (with_reducible refine SX0.set ?_ _ _ _ ?_) | (with_reducible refine SX0.drew ?_) | (simp; done) | omega | (simp; omega))
    clear hK K
    try simp only [Act.put, List.setIfInBounds_toArray, List.set_cons_zero, List.set_cons_succ]
    refine WE_last rfl (by kernel_rfl) (fun K hK => ?_)
    go_simp
    refine hK.out _ _ ?_
    clear hK K
    have hk3 : Kept [] wr w3 := hHeld.1
    go_wp2_with fail
    exact ⟨⟨i + 1, by omega, by go_num, keptTrans hkr hk3⟩, by simp [intOf]; omega⟩
  · obtain rfl : i = n := by omega
    go_wp2_with fail
    go_ret
    exact ⟨rfl, hkr.toBelow⟩

theorem lists_nil (w : World) : Calls Tryz.prog 10 #[.slice none 0 0, .slice none 0 0] w fun e w' => e = .returned (.bool true) ∧ Below w.heap.size w w' :=
  lists_eq none none 0 0 0 [] w ⟨rfl, fun h => absurd h (by omega)⟩ ⟨rfl, fun h => absurd h (by omega)⟩ (by omega) (fun i => by simp [gf])

set_option maxRecDepth 100000 in
set_option maxHeartbeats 4000000 in
theorem rpaths_bad {p : Pb} (A1 A2 A3 A4 : Option Addr) (n1 c1 n2 c2 n3 c3 n4 c4 : Nat) (w : World) (hG : Gr w A1 n1 A2 n2 p.ns p.es) (hF : Flw w A3 n3 p.fl) (hS : Sds w A4 n4 p.sd) (hn4 : n4 ≤ 9223372036854775807) (pe : Int) (hpe : pbErr p = pe) (h0 : pe ≠ 0) :
    Calls Tryz.prog 9 #[.agg #[.slice A1 n1 c1, .slice A2 n2 c2, .int .i64 p.mn, .int .i64 p.F, .slice A3 n3 c3, .slice A4 n4 c4]] w fun e w' => e = .returned (.tuple #[.slice none 0 0, .int .i64 pe]) ∧ Below w.heap.size w w' := by
  have HG := Lib.hid hG
  have HF := Lib.hid hF
  have HS := Lib.hid hS
  have HPE : Hid (pbErr ⟨p.ns, p.es, p.mn, p.F, p.fl, p.sd⟩ = pe) := Lib.hid hpe
  have h0' : (pe != 0) = true := by simpa using h0
  clear hG hF hS hpe h0
  go_enter Tryz.func9, Tryz.ntmps9
  go_upto_region 1 with fail
  refine wp_named (fun W => ∃ b0, w.heap.size = b0 ∧ Blk W b0 [.slice A1 n1 c1, .slice A2 n2 c2, .int .i64 p.mn, .int .i64 p.F, .slice A3 n3 c3, .slice A4 n4 c4] ∧ Below w.heap.size w W) ⟨_, rfl, ?_, ?_⟩ ?_
  · exact Blk.new _ _ _ _ (by first | rfl | simp)
  · go_grown
  rintro W ⟨b0, e0, B0, hB⟩
  rw [e0]
  have G0 : w.heap.size ≤ b0 := by omega
  clear e0
  have ⟨L0, C0, F0⟩ := B0
  go_wp2_with (go_at_call 16; refine (rifdsck_any A1 A2 A3 A4 n1 c1 n2 c2 n3 c3 n4 c4 p.mn p.F p.ns p.es p.fl p.sd _ (HG.out.nd.later hB) (HG.out.ed.later hB) (HF.out.later hB) (HS.out.later hB) hn4 HG.out.wn HG.out.we).mono ?_; rw [HPE.out]; rintro e w1 ⟨rfl, hb1⟩)
  go_ret2
  exact ⟨rfl, hB.trans (hb1.mono hB.size)⟩

set_option maxRecDepth 100000 in
set_option maxHeartbeats 8000000 in
theorem ifdsPaths_any {p : Pb} (A1 A2 A3 A4 : Option Addr) (n1 c1 n2 c2 n3 c3 n4 c4 : Nat) (w : World) (hG : Gr w A1 n1 A2 n2 p.ns p.es) (hF : Flw w A3 n3 p.fl) (hS : Sds w A4 n4 p.sd) (hn4 : n4 ≤ 9223372036854775807) :
    Calls Tryz.prog 3 #[.agg #[.slice A1 n1 c1, .slice A2 n2 c2, .int .i64 p.mn, .int .i64 p.F, .slice A3 n3 c3, .slice A4 n4 c4]] w fun e w' => e = .returned (.bool true) ∧ Below w.heap.size w w' := by
  have HG := Lib.hid hG
  have HF := Lib.hid hF
  have HS := Lib.hid hS
  obtain ⟨pe, hpe⟩ : ∃ pe, pbErr p = pe := ⟨_, rfl⟩
  have HPE := Lib.hid hpe
  clear hG hF hS hpe
  go_enter Tryz.func3, Tryz.ntmps3
  go_upto_region 1 with fail
  refine wp_named (fun W => ∃ b0, w.heap.size = b0 ∧ Blk W b0 [.slice A1 n1 c1, .slice A2 n2 c2, .int .i64 p.mn, .int .i64 p.F, .slice A3 n3 c3, .slice A4 n4 c4] ∧ Below w.heap.size w W) ⟨_, rfl, ?_, ?_⟩ ?_
  · exact Blk.new _ _ _ _ (by first | rfl | simp)
  · go_grown
  rintro W ⟨b0, e0, B0, hB⟩
  rw [e0]
  have G0 : w.heap.size ≤ b0 := by omega
  clear e0
  have ⟨L0, C0, F0⟩ := B0
  go_wp2_with fail
  refine (small30_any A1 A2 A3 A4 n1 c1 n2 c2 n3 c3 n4 c4 p.mn p.F p.fl _ (HF.out.later hB)).mono ?_
  rintro e w1 ⟨⟨b, rfl, hsm⟩, hb1⟩
  have hk1 : Kept [] W w1 := (Kept.refl _ _).call hb1
  have B01 := hk1.blk (by simp) B0
  have ⟨L01, C01, F01⟩ := B01
  have hB1 : Below w.heap.size w w1 := hk1.below hB hB.size (by simp)
  clear C0 F0
  cases b with
  | false =>
    go_wp2_with fail
    go_ret
    exact ⟨rfl, hB1⟩
  | true =>
  have hs := hsm rfl
  have hn20 : n4 ≤ 1000000 := by omega
  have hn140 : n1 ≤ 1000000 := by omega
  clear hsm hs
  by_cases h0 : pe = 0
  case neg =>
    as_aux_lemma =>
      go_upto_region 4 with (go_at_call 8; refine (paths_bad A1 A2 A3 A4 n1 c1 n2 c2 n3 c3 n4 c4 _ (HG.out.later hB1) (HF.out.later hB1) (HS.out.later hB1) hn4 pe HPE.out h0).mono ?_; rintro e w2 ⟨rfl, hb2⟩)
      have hk12 : Kept [] w1 w2 := (Kept.refl _ _).call hb2
      have ⟨L02, C02, F02⟩ := hk12.blk (by simp) B01
      have hB2 : Below w.heap.size w w2 := hk12.below hB1 hB1.size (by simp)
      clear C01 F01
      go_wp2_with (first
        | (go_at_call 9; refine (rpaths_bad A1 A2 A3 A4 n1 c1 n2 c2 n3 c3 n4 c4 _ (HG.out.later hB2) (HF.out.later hB2) (HS.out.later hB2) hn4 pe HPE.out h0).mono ?_; rintro e w3 ⟨rfl, hb3⟩)
        | (go_at_call 10; refine (lists_nil _).mono ?_; rintro e w4 ⟨rfl, hb4⟩)
        | (go_at_call 11; refine (knows_any _).mono ?_; rintro e w5 ⟨rfl, hb5⟩))
      go_ret
      exact ⟨rfl, ((((Kept.refl [] w2).call hb3).call hb4).call hb5).below hB2 hB2.size (by simp)⟩
  subst h0
  have HO := Lib.hid (ok_of HPE.out)
  have hmain := main_in (sup_parts HO.out.sup).2.2.1
  obtain ⟨mN, hmN⟩ := Int.eq_ofNat_of_zero_le hmain.1
  obtain ⟨Fn, hFn⟩ := Int.eq_ofNat_of_zero_le (show 0 ≤ p.F by have := HO.out.f1; omega)
  have HLL : Hid (∀ i, (gf ((List.range n1).map (pairL p)) i).length ≤ 9223372036854775807) := Lib.hid (fun i => by
    by_cases hi : i < n1
    · have e9 : gf ((List.range n1).map (pairL p)) i = pairL p i := by simp [gf, hi]
      rw [e9]
      have h1 := pairL_len HO.out (F := p.F.toNat) rfl i
      have hF8 : p.F.toNat ≤ 1024 := by have := HO.out.f2; omega
      have h2 : p.F.toNat * p.F.toNat ≤ 1024 * 1024 := Nat.mul_le_mul hF8 hF8
      omega
    · simp [gf, hi])
  have HMN := Lib.hid hmN
  have HFN := Lib.hid hFn
  clear hmain hmN hFn
  go_upto_region 4 with (go_at_call 8; refine (paths_any A1 A2 A3 A4 n1 c1 n2 c2 n3 c3 n4 c4 _ (HG.out.later hB1) (HF.out.later hB1) (HS.out.later hB1) hn20 HPE.out).mono ?_; rintro e w2 ⟨Ap, rfl, hp2, hb2⟩; have HP2 := Lib.hid hp2; clear hp2)
  have hk12 : Kept [] w1 w2 := (Kept.refl _ _).call hb2
  have ⟨L02, C02, F02⟩ := hk12.blk (by simp) B01
  have hB2 : Below w.heap.size w w2 := hk12.below hB1 hB1.size (by simp)
  have HR : Hid (Calls Tryz.prog 9 #[.agg #[.slice A1 n1 c1, .slice A2 n2 c2, .int .i64 p.mn, .int .i64 p.F, .slice A3 n3 c3, .slice A4 n4 c4]] w2 fun e w' => ∃ A cA, e = .returned (.tuple #[.slice A n1 cA, .int .i64 0]) ∧ Flw w' A n1 ((List.range n1).map (pairL p)) ∧ Below w2.heap.size w2 w') := Lib.hid (by
    have h9 := rpaths_ok (p := p) A1 A2 A3 A4 n1 c1 n2 c2 n3 c3 n4 c4 mN Fn w2 (HG.out.later hB2) ⟨(HG.out.later hB2).nd, (HG.out.later hB2).ed, HF.out.later hB2, HS.out.later hB2, HFN.out, HMN.out, HO.out, hn20⟩
    rw [← HMN.out, ← HFN.out] at h9
    exact h9)
  clear C01 F01
  go_wp2_with (first
    | (go_at_call 9; refine HR.out.mono ?_; rintro e w3 ⟨Aq, cq, rfl, hq3, hb3⟩; have HQ3 := Lib.hid hq3; clear hq3)
    | (go_at_call 10; refine (lists_eq Ap Aq n1 n1 cq _ _ (HP2.out.later hb3) HQ3.out (by omega) HLL.out).mono ?_; rintro e w4 ⟨rfl, hb4⟩)
    | (go_at_call 11; refine (knows_any _).mono ?_; rintro e w5 ⟨rfl, hb5⟩))
  go_ret
  exact ⟨rfl, ((((Kept.refl [] w2).call hb3).call hb4).call hb5).below hB2 hB2.size (by simp)⟩
end Go.Proofs.YtmbihjlflcjlnaaGreat
