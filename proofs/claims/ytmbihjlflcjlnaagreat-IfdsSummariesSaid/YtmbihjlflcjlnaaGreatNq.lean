/- The contract of ifds.Summaries. -/
import Derived.Test.YtmbihjlflcjlnaaGreatNy
import Derived.Test.YtmbihjlflcjlnaaGreatNx
import Derived.Test.YtmbihjlflcjlnaaGreatNo
import Derived.Test.YtmbihjlflcjlnaaGreatZo
namespace Go.Df
open Go.RowKit
theorem new3T (w : World) (b : Nat) (u v x : Value) (t : TypeId) (hb : b = w.heap.size) : Rd (w.alloc (.cells #[u, v, x] t)) 3 (some ⟨b, 0, none⟩) 1 [u, v, x] := by
  subst hb
  refine ⟨rfl, fun _ => ⟨_, _, rfl, by simp, fun j _ => ?_⟩⟩
  rw [World.cell?_alloc_new, Nat.zero_add]; simp
end Go.Df
namespace Go.Proofs.YtmbihjlflcjlnaaGreat
open Go.RowKit Go.Df Go.Df.If
attribute [local go_sem ↓] Go.wp_at_zero Go.wp_at_succ
theorem sum_info : (Tryz.prog.info? 42).map (fun i => (i.zero, i.size, i.bytes)) = some (some (.agg #[.int .i64 0, .slice none 0 0, .slice none 0 0]), 3, 56) := by kernel_rfl

set_option maxRecDepth 100000 in
set_option maxHeartbeats 4000000 in
theorem sums_err (A1 A2 A3 A4 : Option Addr) (n1 c1 n2 c2 n3 c3 n4 c4 : Nat) (mn F pe : Int) (w : World) (h0 : pe ≠ 0)
    (hchk : ∀ w1, Below w.heap.size w w1 → Calls Tryz.prog 24 #[.agg #[.slice A1 n1 c1, .slice A2 n2 c2, .int .i64 mn, .int .i64 F, .slice A3 n3 c3, .slice A4 n4 c4]] w1 fun e w' => e = .returned (.int .i64 pe) ∧ Below w1.heap.size w1 w') :
    Calls Tryz.prog 12 #[.agg #[.slice A1 n1 c1, .slice A2 n2 c2, .int .i64 mn, .int .i64 F, .slice A3 n3 c3, .slice A4 n4 c4]] w fun e w' => e = .returned (.tuple #[.slice none 0 0, .int .i64 pe]) ∧ Below w.heap.size w w' := by
  have HCHK := Lib.hid hchk
  have h0' : (pe != 0) = true := by simpa using h0
  clear hchk h0
  go_enter Tryz.func12, Tryz.ntmps12
  go_upto_region 1 with fail
  refine wp_named (fun W => ∃ b0, w.heap.size = b0 ∧ Blk W b0 [.slice A1 n1 c1, .slice A2 n2 c2, .int .i64 mn, .int .i64 F, .slice A3 n3 c3, .slice A4 n4 c4] ∧ Below w.heap.size w W) ⟨_, rfl, ?_, ?_⟩ ?_
  · exact Blk.new _ _ _ _ (by first | rfl | simp)
  · go_grown
  rintro W ⟨b0, e0, B0, hB⟩
  rw [e0]
  have G0 : w.heap.size ≤ b0 := by omega
  clear e0
  have ⟨L0, C0, F0⟩ := B0
  go_wp2_with (go_at_call 24; refine (HCHK.out _ hB).mono ?_; rintro e w1 ⟨rfl, hb1⟩)
  go_ret2
  exact ⟨rfl, hB.trans (hb1.mono hB.size)⟩

set_option maxRecDepth 100000 in
set_option maxHeartbeats 8000000 in
theorem sums_ok {p : Pb} (A1 A2 A3 A4 : Option Addr) (n1 c1 n2 c2 n3 c3 n4 c4 : Nat) (mN : Nat) (F : Int) (w : World) (hmn : p.mn = mN) (hF : p.F = F) (hnd : Nds w A1 n1 p.ns) (hed : Eds w A2 n2 p.es) (hfl : Flw w A3 n3 p.fl) (hsd : Sds w A4 n4 p.sd) (ho : Ok p) (hn4 : n4 ≤ 1000000)
    (hchk : ∀ w1, Below w.heap.size w w1 → Calls Tryz.prog 24 #[.agg #[.slice A1 n1 c1, .slice A2 n2 c2, .int .i64 mN, .int .i64 F, .slice A3 n3 c3, .slice A4 n4 c4]] w1 fun e w' => e = .returned (.int .i64 0) ∧ Below w1.heap.size w1 w') :
    Calls Tryz.prog 12 #[.agg #[.slice A1 n1 c1, .slice A2 n2 c2, .int .i64 mN, .int .i64 F, .slice A3 n3 c3, .slice A4 n4 c4]] w fun e w' => ∃ A k c, e = .returned (.tuple #[.slice A k c, .int .i64 0]) ∧ Sums w' A k (sumI p n1) ∧ Below w.heap.size w w' := by
  obtain ⟨i1, hinf1, hy0, hy1, hy2⟩ := info_parts sum_info
  have hN2 : n1 ≤ 8192 := by have := (sup_parts ho.sup).1; have := hnd.1; omega
  have HCHK := Lib.hid hchk
  have HND := Lib.hid hnd
  have HED := Lib.hid hed
  have HFL := Lib.hid hfl
  have HSD := Lib.hid hsd
  have HO := Lib.hid ho
  have HF := Lib.hid hF
  have HMN := Lib.hid hmn
  have HNE := Lib.hid (sup_parts ho.sup).2.2.1
  clear hchk hnd hed hfl hsd ho hF hmn
  go_enter Tryz.func12, Tryz.ntmps12
  go_upto_region 1 with fail
  refine wp_named (fun W => ∃ b0, w.heap.size = b0 ∧ Blk W b0 [.slice A1 n1 c1, .slice A2 n2 c2, .int .i64 mN, .int .i64 F, .slice A3 n3 c3, .slice A4 n4 c4] ∧ Below w.heap.size w W) ⟨_, rfl, ?_, ?_⟩ ?_
  · exact Blk.new _ _ _ _ (by first | rfl | simp)
  · go_grown
  rintro W ⟨b0, e0, B0, hB⟩
  rw [e0]
  have G0 : w.heap.size ≤ b0 := by omega
  clear e0
  have ⟨L0, C0, F0⟩ := B0
  go_upto_region 2 with (go_at_call 24; refine (HCHK.out _ hB).mono ?_; rintro e w1 ⟨rfl, hb1⟩)
  have hkw1 : Kept [] w w1 := ((Kept.refl _ _).call hB).call hb1
  have HB0 := Lib.hid (B0.later hb1)
  have ⟨L01, C01, F01⟩ := HB0.out
  clear C0 F0
  go_upto_region 5 with (go_at_call 25; refine (tabulate_any A1 A2 A3 A4 n1 c1 n2 c2 n3 c3 n4 c4 mN F w1 HMN.out HF.out (HND.out.later hkw1.toBelow) (HED.out.later hkw1.toBelow) (HFL.out.later hkw1.toBelow) (HSD.out.later hkw1.toBelow) HO.out hn4).mono ?_; rintro e w2 ⟨kn, g, O, G, s, rfl, hin, hm, hpe, hwf⟩)
  obtain rfl : n1 = kn.n1 := by have h1 := hin.nd.1; have h2 := HND.out.1; omega
  have HM := Lib.hid hm
  have HPE := Lib.hid hpe
  have hkw2 : Kept [] w1 w2 := (Kept.refl _ _).call hm.low
  have HK02 : Hid (Kept [] w w2) := Lib.hid (keptTrans hkw1 hkw2)
  have HB02 := Lib.hid (hkw2.blk (by simp) HB0.out)
  have ⟨L02, C02, F02⟩ := HB02.out
  have HNL : Hid (p.ns.length = kn.n1) := Lib.hid HND.out.1
  clear C01 F01 hm hpe hwf hin
  go_wp2_with fail
  -- MARK1
  go_loopw [6, 22] (fun s6 s22 wr => ∃ (i : Nat) (A : Option Addr) (k c : Nat) (l : List SuR), i ≤ kn.n1 ∧ s22 = .int .i64 i ∧ s6 = .slice A k c ∧ Hid (Below w2.heap.size w2 wr) ∧ Hid (l.length = k) ∧ Hid (wr.ownsRow w2.heap.size 42 3 (.slice A k c) k (sucells l)) ∧ Hid (RwS w2.heap.size 76 wr l (sumI p i))) (fun _ s22 _ => kn.n1 - (intOf s22).toNat)
  case atStart => exact ⟨0, none, 0, 0, [], Nat.zero_le _, rfl, rfl, Lib.hid (Below.refl _ _), Lib.hid rfl, Lib.hid (World.ownsRow_nil _ _ _ _), Lib.hid (RwS.nil _ _ _)⟩
  case round =>
  clear C02 F02
  obtain ⟨i, A, k, c, l, hi, rfl, rfl, BW, HLK, OWN, RW⟩ := hrel
  have hk2r : Kept [] w2 wr := (Kept.refl [] w2).call BW.out
  have KW := Lib.hid (keptTrans HK02.out hk2r)
  have B0r := hk2r.blk (by simp) HB02.out
  have ⟨L0r, C0r, F0r⟩ := B0r
  have HB0r := Lib.hid B0r
  have hkn : k ≤ i := by rw [← HLK.out, RW.out.1]; exact sumI_len p i
  by_cases hlt : i < kn.n1
  case neg =>
    obtain rfl : i = kn.n1 := by omega
    clear hlt
    go_wp2_with fail
    go_ret2
    exact ⟨A, k, c, rfl, Sums.of OWN.out HLK.out RW.out, KW.out.toBelow⟩
  have hi9 : (i : Int) < (kn.n1 : Int) := by omega
  obtain ⟨b, o, rfl, hl, hc⟩ := HND.out.2 (by omega)
  obtain ⟨h1, h2, h3⟩ := hc i hlt
  obtain ⟨nf, nk, ni, en⟩ : ∃ nf nk ni, gn p.ns i = ⟨nf, nk, ni⟩ := ⟨_, _, _, rfl⟩
  rw [en] at h1 h2 h3
  have g1 := (KW.out.cell b _ hl (by simp)).trans h1
  have g2 := (KW.out.cell b _ hl (by simp)).trans h2
  have g3 := (KW.out.cell b _ hl (by simp)).trans h3
  have hlr : b < wr.heap.size := Nat.lt_of_lt_of_le hl KW.out.size
  have HEN := Lib.hid en
  clear hc h1 h2 h3 en B0r
  go_upto_region 9 with fail
  refine wp_named (fun V => ∃ gg, wr.heap.size = gg ∧ Blk V gg [.int .i64 nf, .int .i64 nk, .int .i64 ni] ∧ Kept [] wr V) ⟨_, rfl, Blk.new _ _ _ _ rfl, (Kept.refl _ _).alloc _⟩ ?_
  rintro V ⟨gg, eg, Bg, hkV⟩
  have hgge : wr.heap.size ≤ gg := Nat.le_of_eq eg
  rw [eg]
  have hk2V : Kept [] w2 V := keptTrans hk2r hkV
  have BWV := Lib.hid hk2V.toBelow
  have B0V := hkV.blk (by simp) HB0r.out
  have ⟨L0V, C0V, F0V⟩ := B0V
  have ⟨LGV, CGV, FGV⟩ := Bg
  have HBG := Lib.hid Bg
  have HB0V := Lib.hid B0V
  have OWV := Lib.hid (own_keptT (X := []) OWN.out hkV (by simp))
  have RWV := Lib.hid (RW.out.kept hkV (fun _ _ _ => by simp))
  have MV := Lib.hid (HM.out.call BWV.out)
  clear C0r F0r g1 g2 g3 eg Bg B0V
  by_cases hk1 : nk = 1
  case neg =>
    have z1 : (nk != 1) = true := by simpa using hk1
    have HS : Hid (sumI p (i + 1) = sumI p i) := Lib.hid (sumI_no (fun h => hk1 (by have := h.1; rw [HEN.out] at this; exact this)))
    clear hk1
    go_wp2_with fail
    exact ⟨⟨i + 1, A, k, c, l, by omega, by go_num, rfl, BWV, HLK, OWV, by rw [HS.out]; exact RWV⟩, by simp [intOf]; omega⟩
  subst hk1
  obtain ⟨v, hv⟩ : ∃ v, s.h i 0 0 = v := ⟨_, rfl⟩
  have HV := Lib.hid hv
  clear hv
  cases v with
  | false =>
    have HS : Hid (sumI p (i + 1) = sumI p i) := Lib.hid (sumI_no (fun h => by have h9 := (HPE.out 0 i 0).2 h.2; rw [HV.out] at h9; cases h9))
    go_wp2_with (go_at_call 32; refine (reached_any _ i MV.out hlt).mono ?_; rw [HV.out]; rintro e w3 ⟨rfl, hb3⟩)
    have hk3 : Kept [] V w3 := (Kept.refl _ _).call hb3
    exact ⟨⟨i + 1, A, k, c, l, by omega, by go_num, rfl, Lib.hid (keptTrans hk2V hk3).toBelow, HLK, Lib.hid (own_keptT (X := []) OWV.out hk3 (by simp)), by rw [HS.out]; exact Lib.hid (RWV.out.kept hk3 (fun _ _ _ => by simp))⟩, by simp [intOf]; omega⟩
  | true =>
  have HS : Hid (sumI p (i + 1) = sumI p i ++ [sumOf p i]) := Lib.hid (sumI_yes (by rw [HEN.out]) ((HPE.out 0 i 0).1 HV.out))
  have hwh := Sp.whole_of HNE.out (x := i) (by rw [HNL.out]; exact hlt)
  rw [HEN.out] at hwh
  dsimp only at hwh
  obtain ⟨x3, hx3⟩ := Int.eq_ofNat_of_zero_le hwh.1
  obtain ⟨x4, hx4⟩ := Int.eq_ofNat_of_zero_le hwh.2
  have hx3n : x3 < kn.n1 := by have h9 := Sp.kindAt_lt hwh.1; have := HNL.out; omega
  have hx4n : x4 < kn.n1 := by have h9 := Sp.kindAt_lt hwh.2; have := HNL.out; omega
  have HX3 := Lib.hid hx3
  have HX4 := Lib.hid hx4
  have HSO : Hid (sumOf p i = ⟨nf, pairL p x3, pairL p x4⟩) := Lib.hid (by
    unfold sumOf
    rw [HEN.out]
    dsimp only
    rw [hx3, hx4, Int.toNat_natCast, Int.toNat_natCast])
  clear hwh hx3 hx4
  go_upto_region 11 with (first
    | (go_at_call 32; refine (reached_any _ i MV.out hlt).mono ?_; rw [HV.out]; rintro e w3 ⟨rfl, hb3⟩; have hk3 : Kept [] V w3 := (Kept.refl _ _).call hb3; have ⟨L03, C03, F03⟩ := hk3.blk (by simp) HB0V.out; have ⟨LG3, CG3, FG3⟩ := hk3.blk (by simp) HBG.out)
    | (go_at_call 33; refine (pexit_any _ _ kn.n1 c1 n2 c2 mN nf p.ns _ (HND.out.later (keptTrans (keptTrans HK02.out hk2V) hk3).toBelow) (by omega)).mono ?_; rw [HX3.out, HX4.out]; rintro e w4 ⟨rfl, hb4⟩))
  have hk4 : Kept [] V w4 := hk3.call hb4
  have hk24 : Kept [] w2 w4 := keptTrans hk2V hk4
  have ⟨LG4, CG4, FG4⟩ := hk4.blk (by simp) HBG.out
  have OW4 := Lib.hid (own_keptT (X := []) OWV.out hk4 (by simp))
  have RW4 := Lib.hid (RWV.out.kept hk4 (fun _ _ _ => by simp))
  have HXA : Hid (∀ y ∈ (Value.slice A k c).ownBlock.toList, w2.heap.size ≤ y) := (fun y hy => own_ge OW4.out (by simpa using hy))
  have HXB : Hid (∀ y ∈ (Value.slice A k c).ownBlock.toList, y < wr.heap.size) := (fun y hy => own_lt2 OWN.out (by simpa using hy))
  have xg : gg ∉ (Value.slice A k c).ownBlock.toList := fun hm => by have h8 := HXB.out gg hm; omega
  have hg4 : gg < w4.heap.size := LG4
  clear C0V F0V CGV FGV C03 F03 CG3 FG3
  have HXL : Hid (∀ y ∈ (Value.slice A k c).ownBlock.toList, w2.heap.size ≤ y) := HXA
  have HAPF : Hid (∀ (E T : Option Addr) (ne ce nt ct : Nat), sucells l ++ [.int .i64 nf, .slice E ne ce, .slice T nt ct] = sucells (l ++ [⟨nf, E, ne, ce, T, nt, ct⟩])) := Lib.hid (fun E T ne ce nt ct => sucells_snoc l ⟨nf, E, ne, ce, T, nt, ct⟩)
  have hs24 := hk24.size
  -- MARK2
  refine wp_region_E 12 (fun w' => SXu (Value.slice A k c).ownBlock.toList gg gg w4 w') (by kernel_rfl) (by (first | (with_reducible assumption) | exact SXu.of (Kept.refl _ _).drew hg4 hg4 xg xg | exact SXu.of (hHeld.1.call (by assumption)) hg4 hg4 xg xg | exact SXu.of (hHeld.1.alloc _) hg4 hg4 xg xg | exact SXu.of HKA.out hg4 hg4 xg xg)) (fun hHeld => ?_)
  refine WE_take 0 (v := ?_) rfl (by kernel_rfl) (fun _ _ _ h => h) (Or.inl ⟨by rfl, ?_⟩) (by assumption) ?_; rotate_left; (· intro w9 hSw; (try dsimp only at hSw); go_simp; try with_reducible rfl); (try simp only [Act.put, List.setIfInBounds_toArray, List.set_cons_zero, List.set_cons_succ])
  refine WE_take 1 (v := ?_) rfl (by kernel_rfl) (fun _ _ _ h => h) (Or.inl ⟨by rfl, ?_⟩) (by assumption) ?_; rotate_left; (· intro w9 hSw; (try dsimp only at hSw); go_simp; try with_reducible rfl); (try simp only [Act.put, List.setIfInBounds_toArray, List.set_cons_zero, List.set_cons_succ])
  refine WE_take 2 (v := ?_) rfl (by kernel_rfl) (fun _ _ _ h => h) (Or.inl ⟨by rfl, ?_⟩) (by assumption) ?_; rotate_left; (· intro w9 hSw; (try dsimp only at hSw); go_simp; try with_reducible rfl); (try simp only [Act.put, List.setIfInBounds_toArray, List.set_cons_zero, List.set_cons_succ])
  refine WE_take 3 (v := ?_) rfl (by kernel_rfl) (fun _ _ _ h => h) (Or.inl ⟨by rfl, ?_⟩) (by assumption) ?_; rotate_left; (· intro w9 hSw; (try dsimp only at hSw); go_simp; try with_reducible rfl); (try simp only [Act.put, List.setIfInBounds_toArray, List.set_cons_zero, List.set_cons_succ])
  refine WE_take 4 (v := ?_) rfl (by kernel_rfl) (fun _ _ _ h => h) (Or.inl ⟨by rfl, ?_⟩) (by assumption) ?_; rotate_left; (· intro w9 hSw; (try dsimp only at hSw); go_simp; try with_reducible rfl); (try simp only [Act.put, List.setIfInBounds_toArray, List.set_cons_zero, List.set_cons_succ])
  refine WE_take 6 (v := ?_) rfl (by kernel_rfl) (fun _ _ _ h => h) (Or.inl ⟨by rfl, ?_⟩) (by assumption) ?_; rotate_left; (· intro w9 hSw; (try dsimp only at hSw); go_simp; try with_reducible rfl); (try simp only [Act.put, List.setIfInBounds_toArray, List.set_cons_zero, List.set_cons_succ])
  refine WE_take 7 (v := ?_) rfl (by kernel_rfl) (fun _ _ _ h => h) (Or.inl ⟨by rfl, ?_⟩) (by assumption) ?_; rotate_left; (· intro w9 hSw; (try dsimp only at hSw); go_simp; try with_reducible rfl); (try simp only [Act.put, List.setIfInBounds_toArray, List.set_cons_zero, List.set_cons_succ])
  refine WE_step 5 rfl (by kernel_rfl) (fun K hK => ?_)
  go_simp
  (first | (go_at_call 26; with_reducible refine (pairs_any _ x3 (HM.out.call (hHeld.1.below hk24.toBelow hk24.size (fun y hy => HXL.out y hy))) hx3n HO.out HPE.out).mono ?_; rintro e w5 ⟨A5, k5, c5, rfl, hkc5, hp5, hf5, hb5⟩; have HP5 := Lib.hid hp5; have HF5 := Lib.hid hf5; have hkA := Lib.hid (((Kept.refl [] w4).drew).call hb5); clear hp5 hf5) | (go_at_call 26; with_reducible refine (pairs_any _ x4 (HM.out.call (hHeld.1.below hk24.toBelow hk24.size (fun y hy => HXL.out y hy))) hx4n HO.out HPE.out).mono ?_; rintro e w6 ⟨A6, k6, c6, rfl, hkc6, hp6, hf6, hb6⟩; have HP6 := Lib.hid hp6; have HF6 := Lib.hid hf6; have hkB := Lib.hid (hkA.out.call hb6); have hk56 : Kept [] w5 w6 := (Kept.refl _ _).call hb6; have HK56 := Lib.hid hk56; have hsB := hkB.out.size; clear hp6 hf6))
  (try go_wp2_with fail)
  refine hK.out _ _ ?_ (fun hHeld => ?_)
  · (first | (with_reducible assumption) | exact SXu.of (Kept.refl _ _).drew hg4 hg4 xg xg | exact SXu.of (hHeld.1.call (by assumption)) hg4 hg4 xg xg | exact SXu.of (hHeld.1.alloc _) hg4 hg4 xg xg | exact SXu.of HKA.out hg4 hg4 xg xg)
  clear hK K
  try simp only [Act.put, List.setIfInBounds_toArray, List.set_cons_zero, List.set_cons_succ]
  refine WE_step 8 rfl (by kernel_rfl) (fun K hK => ?_)
  go_simp
  (first | (go_at_call 26; with_reducible refine (pairs_any _ x3 (HM.out.call (hHeld.1.below hk24.toBelow hk24.size (fun y hy => HXL.out y hy))) hx3n HO.out HPE.out).mono ?_; rintro e w5 ⟨A5, k5, c5, rfl, hkc5, hp5, hf5, hb5⟩; have HP5 := Lib.hid hp5; have HF5 := Lib.hid hf5; have hkA := Lib.hid (((Kept.refl [] w4).drew).call hb5); clear hp5 hf5) | (go_at_call 26; with_reducible refine (pairs_any _ x4 (HM.out.call (hHeld.1.below hk24.toBelow hk24.size (fun y hy => HXL.out y hy))) hx4n HO.out HPE.out).mono ?_; rintro e w6 ⟨A6, k6, c6, rfl, hkc6, hp6, hf6, hb6⟩; have HP6 := Lib.hid hp6; have HF6 := Lib.hid hf6; have hkB := Lib.hid (hkA.out.call hb6); have hk56 : Kept [] w5 w6 := (Kept.refl _ _).call hb6; have HK56 := Lib.hid hk56; have hsB := hkB.out.size; clear hp6 hf6))
  (try go_wp2_with fail)
  refine hK.out _ _ ?_ (fun hHeld => ?_)
  · (first | (with_reducible assumption) | exact SXu.of (Kept.refl _ _).drew hg4 hg4 xg xg | exact SXu.of (hHeld.1.call (by assumption)) hg4 hg4 xg xg | exact SXu.of (hHeld.1.alloc _) hg4 hg4 xg xg | exact SXu.of HKA.out hg4 hg4 xg xg)
  clear hK K
  try simp only [Act.put, List.setIfInBounds_toArray, List.set_cons_zero, List.set_cons_succ]
  refine WE_take 9 (v := ?_) rfl (by kernel_rfl) (fun _ _ _ h => h) (Or.inl ⟨by rfl, ?_⟩) (by assumption) ?_; rotate_left; (· intro w9 hSw; (try dsimp only at hSw); go_simp; try with_reducible rfl); (try simp only [Act.put, List.setIfInBounds_toArray, List.set_cons_zero, List.set_cons_succ])
  refine WE_step 10 rfl (by kernel_rfl) (fun K hK => ?_)
  go_simp
  refine hK.out _ _ ?_ (fun hHeld => ?_)
  · (first | (with_reducible assumption) | exact SXu.of (Kept.refl _ _).drew hg4 hg4 xg xg | exact SXu.of (hHeld.1.call (by assumption)) hg4 hg4 xg xg | exact SXu.of (hHeld.1.alloc _) hg4 hg4 xg xg | exact SXu.of HKA.out hg4 hg4 xg xg)
  clear hK K
  try simp only [Act.put, List.setIfInBounds_toArray, List.set_cons_zero, List.set_cons_succ]
  refine WE_step 11 rfl (by kernel_rfl) (fun K hK => ?_)
  (refine step_append_rd _ rfl _ _ 37 rfl w2.heap.size 42 i1 (.agg #[.int .i64 0, .slice none 0 0, .slice none 0 0]) 3 56 Tryz.underlying37 hinf1 hy0 hy1 hy2 rfl (by decide) (.slice A k c) k _ rfl (own_keptT (X := []) OW4.out (hkB.out.alloc _) (by simp)) (some ⟨w6.heap.size, 0, none⟩) 1 1 [.int .i64 nf, .slice A5 k5 c5, .slice A6 k6 c6] rfl (new3T _ _ _ _ _ _ rfl) (fun h => by cases h) (by intro u hu; simp at hu; rcases hu with rfl | rfl | rfl <;> rfl) (k + 1) rfl _ (HAPF.out A5 A6 k5 c5 k6 c6) (by unfold maxLen; omega) (by omega) (by simp; omega) ?_; intro A9 c9 w9 hown9 hk9 hat9; have HKA := Lib.hid (((keptWide hkB.out (by simp)).alloc _).next hk9 (fun y hy => Or.inl hy) : Kept (Value.slice A k c).ownBlock.toList w4 w9); have HO9 := Lib.hid hown9; have HK9 := Lib.hid hk9; clear hown9 hk9 hat9)
  refine hK.out _ _ ?_ (fun hHeld => ?_)
  · (first | (with_reducible assumption) | exact SXu.of (Kept.refl _ _).drew hg4 hg4 xg xg | exact SXu.of (hHeld.1.call (by assumption)) hg4 hg4 xg xg | exact SXu.of (hHeld.1.alloc _) hg4 hg4 xg xg | exact SXu.of HKA.out hg4 hg4 xg xg)
  clear hK K
  try simp only [Act.put, List.setIfInBounds_toArray, List.set_cons_zero, List.set_cons_succ]
  refine WE_last rfl (by kernel_rfl) (fun K hK => ?_)
  go_simp
  refine hK.out _ _ ?_
  clear hK K
  -- MARK3
  have OW6 := own_keptT (X := []) OW4.out hkB.out (by simp)
  have hk69 : Kept (Value.slice A k c).ownBlock.toList w6 w9 := ((Kept.refl _ w6).alloc _).next HK9.out (fun y hy => Or.inl hy)
  have RW6 := (RW4.out.kept hkB.out (fun _ _ _ => by simp)).snoc (x := ⟨nf, A5, k5, c5, A6, k6, c6⟩) (u := ⟨nf, pairL p x3, pairL p x4⟩) rfl (HP5.out.later HK56.out.toBelow) HP6.out
    (fun a ha => ⟨by have h8 := (HF5.out a ha).1; simp at h8; omega, (HF5.out a ha).2.same (HK56.out.block _ (HF5.out a ha).2.lt (by simp))⟩)
    (fun a ha => ⟨by have h8 := (HF6.out a ha).1; have h9 := hkA.out.size; omega, (HF6.out a ha).2⟩)
  have RW9 := Lib.hid (RW6.kept hk69 (fun b hb _ hm => by
    have h1 : (Value.slice A k c).ownBlock = some b := by simpa using hm
    exact absurd rfl (hb.ne (own_tag OW6 h1) (by decide))))
  have BW9 := Lib.hid (HKA.out.below hk24.toBelow hk24.size (fun y hy => HXL.out y hy))
  clear OW6 RW6
  go_wp2_with fail
  exact ⟨⟨i + 1, A9, k + 1, c9, l ++ [⟨nf, A5, k5, c5, A6, k6, c6⟩], by omega, by go_num, rfl, BW9, Lib.hid (by rw [List.length_append, HLK.out]; rfl), HO9, by rw [HS.out, HSO.out]; exact RW9⟩, by simp [intOf]; omega⟩

theorem sums_any {p : Pb} (A1 A2 A3 A4 : Option Addr) (n1 c1 n2 c2 n3 c3 n4 c4 : Nat) (w : World) (hG : Gr w A1 n1 A2 n2 p.ns p.es) (hF : Flw w A3 n3 p.fl) (hS : Sds w A4 n4 p.sd) (hn4 : n4 ≤ 1000000) (hpe : pbErr p = 0) :
    Calls Tryz.prog 12 #[.agg #[.slice A1 n1 c1, .slice A2 n2 c2, .int .i64 p.mn, .int .i64 p.F, .slice A3 n3 c3, .slice A4 n4 c4]] w fun e w' => ∃ A k c, e = .returned (.tuple #[.slice A k c, .int .i64 0]) ∧ Sums w' A k (sumI p n1) ∧ Below w.heap.size w w' := by
  have ho := ok_of hpe
  have hm := main_in (sup_parts ho.sup).2.2.1
  obtain ⟨mN, hmN⟩ : ∃ mN : Nat, p.mn = mN := ⟨p.mn.toNat, by omega⟩
  have := sums_ok A1 A2 A3 A4 n1 c1 n2 c2 n3 c3 n4 c4 mN p.F w hmN rfl hG.nd hG.ed hF hS ho hn4 (fun w1 hb1 => by
    have h1 := ifdsck_any A1 A2 A3 A4 n1 c1 n2 c2 n3 c3 n4 c4 p.mn p.F p.ns p.es p.fl p.sd w1 (hG.nd.later hb1) (hG.ed.later hb1) (hF.later hb1) (hS.later hb1) (by omega) hG.wn hG.we
    have e : pbErr ⟨p.ns, p.es, p.mn, p.F, p.fl, p.sd⟩ = 0 := hpe
    rw [e, hmN] at h1
    exact h1)
  rw [← hmN] at this
  exact this

theorem sums_bad {p : Pb} (A1 A2 A3 A4 : Option Addr) (n1 c1 n2 c2 n3 c3 n4 c4 : Nat) (w : World) (hG : Gr w A1 n1 A2 n2 p.ns p.es) (hF : Flw w A3 n3 p.fl) (hS : Sds w A4 n4 p.sd) (hn4 : n4 ≤ 9223372036854775807) (pe : Int) (hpe : pbErr p = pe) (h0 : pe ≠ 0) :
    Calls Tryz.prog 12 #[.agg #[.slice A1 n1 c1, .slice A2 n2 c2, .int .i64 p.mn, .int .i64 p.F, .slice A3 n3 c3, .slice A4 n4 c4]] w fun e w' => e = .returned (.tuple #[.slice none 0 0, .int .i64 pe]) ∧ Below w.heap.size w w' :=
  sums_err A1 A2 A3 A4 n1 c1 n2 c2 n3 c3 n4 c4 p.mn p.F pe w h0 (fun w1 hb1 => by
    have h1 := ifdsck_any A1 A2 A3 A4 n1 c1 n2 c2 n3 c3 n4 c4 p.mn p.F p.ns p.es p.fl p.sd w1 (hG.nd.later hb1) (hG.ed.later hb1) (hF.later hb1) (hS.later hb1) hn4 hG.wn hG.we
    have e : pbErr ⟨p.ns, p.es, p.mn, p.F, p.fl, p.sd⟩ = pe := hpe
    rw [e] at h1
    exact h1)
end Go.Proofs.YtmbihjlflcjlnaaGreat
