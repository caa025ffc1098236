/- A pack of texts: Nr Ns Nt. -/
import Derived.Test.YtmbihjlflcjlnaaGreatNy
import Derived.Test.YtmbihjlflcjlnaaGreatNq
import Derived.Test.YtmbihjlflcjlnaaGreatZe
import Derived.Test.YtmbihjlflcjlnaaGreatNv
/- The contracts of the reference's OfFunc and Summaries. -/
namespace Go.Df
open Go.RowKit
/-- What a region that appends to a row of one's own keeps: all but the row; and the cells of three blocks, said at once. -/
abbrev SXv (X : List Nat) (ga gb gc : Nat) (W w' : World) : Prop := Kept X W w' ∧ (∀ o, w'.cell? ⟨ga, o, none⟩ = W.cell? ⟨ga, o, none⟩) ∧ (∀ o, w'.cell? ⟨gb, o, none⟩ = W.cell? ⟨gb, o, none⟩) ∧ (∀ o, w'.cell? ⟨gc, o, none⟩ = W.cell? ⟨gc, o, none⟩)
theorem SXv.of {X : List Nat} {ga gb gc : Nat} {W w' : World} (h : Kept X W w') (ha : ga < W.heap.size) (hb : gb < W.heap.size) (hc : gc < W.heap.size) (xa : ga ∉ X) (xb : gb ∉ X) (xc : gc ∉ X) : SXv X ga gb gc W w' := ⟨h, fun o => h.cell ga o ha xa, fun o => h.cell gb o hb xb, fun o => h.cell gc o hc xc⟩
end Go.Df
namespace Go.Proofs.YtmbihjlflcjlnaaGreat
open Go.RowKit Go.Df Go.Df.If
attribute [local go_sem ↓] Go.wp_at_zero Go.wp_at_succ

set_option maxRecDepth 100000 in
set_option maxHeartbeats 4000000 in
theorem roffunc_any {N F : Nat} {X : List Nat} {bs : Nat → Nat} {r : Nat} {T : Nat → Nat → Nat → Bool} (c : Nat) (A1 A2 A3 A4 : Option Addr) (c1 n2 c2 n3 c3 n4 c4 : Nat) (mn FF f : Int) (ns : List Sp.Nd) (x3 x4 : Nat) (w : World) (hT : TabM N F X bs r w T) (hN8 : N ≤ 8192) (hF8 : F ≤ 1024) (hn : Nds w A1 N ns) (h3 : Sp.kindAt ns f 3 = x3) (h4 : Sp.kindAt ns f 4 = x4) (h3n : x3 < N) (h4n : x4 < N) :
    Calls Tryz.prog 35 #[.agg #[.slice A1 N c1, .slice A2 n2 c2, .int .i64 mn, .int .i64 FF, .slice A3 n3 c3, .slice A4 n4 c4], tabV N F r c, .int .i64 f] w fun e w' => ∃ (E : Option Addr) (ne ce : Nat) (Tt : Option Addr) (nt ct : Nat), e = .returned (.agg #[.int .i64 f, .slice E ne ce, .slice Tt nt ct]) ∧ Prs w' E ne (tabQ F T x3 F) ∧ Prs w' Tt nt (tabQ F T x4 F) ∧ (∀ a, E = some a → w.heap.size ≤ a.block ∧ Tag w' a.block 76) ∧ (∀ a, Tt = some a → w.heap.size ≤ a.block ∧ Tag w' a.block 76) ∧ Below w.heap.size w w' := by
  have HT := Lib.hid hT
  have HN := Lib.hid hn
  have H3 := Lib.hid h3
  have H4 := Lib.hid h4
  have hrl := hT.rl
  clear hT hn h3 h4
  go_enter Tryz.func35, Tryz.ntmps35
  go_upto_region 1 with fail
  refine wp_named (fun W => ∃ b0 b1 b2, w.heap.size = b0 ∧ w.heap.size + 1 = b1 ∧ w.heap.size + 1 + 1 = b2 ∧ Blk W b0 [.slice A1 N c1, .slice A2 n2 c2, .int .i64 mn, .int .i64 FF, .slice A3 n3 c3, .slice A4 n4 c4] ∧ Blk W b1 [.int .i64 (F : Nat), .slice (some ⟨r, 0, none⟩) N c] ∧ Blk W b2 [.int .i64 0, .slice none 0 0, .slice none 0 0] ∧ Below w.heap.size w W) ⟨_, _, _, rfl, rfl, rfl, ?_, ?_, ?_, ?_⟩ ?_
  · exact ((Blk.new _ _ _ _ (by first | rfl | simp)).alloc _).alloc _
  · exact (Blk.new _ _ _ _ (by first | rfl | simp)).alloc _
  · exact Blk.new _ _ _ _ (by first | rfl | simp)
  · go_grown
  rintro W ⟨b0, b1, b2, e0, e1, e2, B0, B1, B2, hB⟩
  rw [e2, e1, e0]
  have G0 : w.heap.size ≤ b0 := by omega
  have n01 : b0 ≠ b1 := by omega
  have n02 : b0 ≠ b2 := by omega
  have G1 : w.heap.size ≤ b1 := by omega
  have n10 : b1 ≠ b0 := by omega
  have n12 : b1 ≠ b2 := by omega
  have G2 : w.heap.size ≤ b2 := by omega
  have n20 : b2 ≠ b0 := by omega
  have n21 : b2 ≠ b1 := by omega
  clear e0 e1 e2
  have ⟨L0, C0, F0⟩ := B0
  have ⟨L1, C1, F1⟩ := B1
  have ⟨L2, C2, F2⟩ := B2
  have hkW : Kept [] w W := (Kept.refl _ _).call hB
  go_upto_region 2 with fail
  refine wp_named (fun V => ∃ g, W.heap.size = g ∧ Blk V g [.int .i64 f, .slice none 0 0, .slice none 0 0] ∧ Kept [] W V) ⟨_, rfl, Blk.new _ _ _ _ rfl, (Kept.refl _ _).alloc _⟩ ?_
  rintro V ⟨g, eg, Bg, hkV⟩
  have hgW : W.heap.size ≤ g := Nat.le_of_eq eg
  rw [eg]
  have hkwV : Kept [] w V := keptTrans hkW hkV
  have B0V := hkV.blk (by simp) B0
  have B1V := hkV.blk (by simp) B1
  have B2V := hkV.blk (by simp) B2
  have hb1g : b1 ≠ g := by have := B1.1; omega
  have hb2g : b2 ≠ g := by have := B2.1; omega
  have ⟨L0V, C0V, F0V⟩ := B0V
  have HB1V := Lib.hid B1V
  have HB2V := Lib.hid B2V
  have HBg := Lib.hid Bg
  clear C0 F0 C1 F1 C2 F2 eg Bg B1V B2V
  go_upto_region 3 with (go_at_call 70; refine (exit_any A1 A2 N c1 n2 c2 mn f ns _ (HN.out.later hkwV.toBelow) (by omega)).mono ?_; rw [H3.out, H4.out]; rintro e w3 ⟨rfl, hb3⟩)
  have hk3 : Kept [] V w3 := (Kept.refl _ _).call hb3
  have hkw3 : Kept [] w w3 := keptTrans hkwV hk3
  have B13 := hk3.blk (by simp) HB1V.out
  have BG3 := hk3.blk (by simp) HBg.out
  have ⟨L13, C13, F13⟩ := B13
  have ⟨LG3, CG3, FG3⟩ := BG3
  have T3 := Lib.hid (HT.out.kept0 hkw3)
  clear C0V F0V
  go_upto_region 5 with (go_at_call 28; refine (rpairsat_any c x3 _ T3.out hN8 hF8 h3n).mono ?_; rintro e w4 ⟨A4', k4, c4', rfl, hkc4, hp4, hf4, hb4⟩; have HP4 := Lib.hid hp4; have HF4 := Lib.hid hf4; have hk34 : Kept [] w3 w4 := (Kept.refl _ _).call hb4; have ⟨LG4, CG4, FG4⟩ := hk34.blk (by simp) BG3; clear hp4 hf4)
  have hkS4 : Kept [g] w4 (w4.setCell ⟨g, 1, none⟩ (.slice A4' k4 c4')) := (Kept.refl [g] w4).set g 1 _ (.inl (by simp))
  refine wp_named (fun Z => Kept [g] w4 Z ∧ Blk Z g [.int .i64 f, .slice A4' k4 c4', .slice none 0 0]) ⟨hkS4, (hk34.blk (by simp) BG3).set 1 _⟩ ?_
  rintro Z ⟨hkZ, BGZ⟩
  have hk3Z : Kept [g] w3 Z := (keptWide hk34 (by simp)).next hkZ (fun y hy => .inl hy)
  have hkwZ : Kept [] w Z := kept_fresh hkw3 hk3Z (by simp; have := hkW.size; omega)
  have B1Z := hk3Z.blk (by simpa using hb1g) B13
  have ⟨L1Z, C1Z, F1Z⟩ := B1Z
  have ⟨LGZ, CGZ, FGZ⟩ := BGZ
  have TZ := Lib.hid (HT.out.kept0 hkwZ)
  have g4 : ∀ a, A4' = some a → a.block ∉ [g] := fun a ha hm => by have h8 := (HF4.out a ha).1; have h9 := LG3; rw [List.mem_singleton] at hm; omega
  have HPZ := Lib.hid (prs_keptT HP4.out hkZ g4)
  have HFZ : Hid (∀ a, A4' = some a → w.heap.size ≤ a.block ∧ Tag Z a.block 76) := Lib.hid (fun a ha => ⟨by have h8 := (HF4.out a ha).1; have h9 := hkw3.size; omega, (HF4.out a ha).2.same (hkZ.block _ (HF4.out a ha).2.lt (g4 a ha))⟩)
  clear C13 F13 CG3 FG3 CG4 FG4 hkS4 g4
  go_upto_region 7 with (go_at_call 28; refine (rpairsat_any c x4 _ TZ.out hN8 hF8 h4n).mono ?_; rintro e w5 ⟨A5', k5, c5', rfl, hkc5, hp5, hf5, hb5⟩; have HP5 := Lib.hid hp5; have HF5 := Lib.hid hf5; have hk5 : Kept [] Z w5 := (Kept.refl _ _).call hb5; have ⟨LG5, CG5, FG5⟩ := hk5.blk (by simp) BGZ; clear hp5 hf5)
  have hkS5 : Kept [g] w5 (w5.setCell ⟨g, 2, none⟩ (.slice A5' k5 c5')) := (Kept.refl [g] w5).set g 2 _ (.inl (by simp))
  refine wp_named (fun U => Kept [g] w5 U ∧ Blk U g [.int .i64 f, .slice A4' k4 c4', .slice A5' k5 c5']) ⟨hkS5, (hk5.blk (by simp) BGZ).set 2 _⟩ ?_
  rintro U ⟨hkU, BGU⟩
  have hkZU : Kept [g] Z U := (keptWide hk5 (by simp)).next hkU (fun y hy => .inl hy)
  have hkwU : Kept [] w U := kept_fresh hkwZ hkZU (by simp; have := hkW.size; omega)
  have B2U := hkZU.blk (by simpa using hb2g) (hk3Z.blk (by simpa using hb2g) (hk3.blk (by simp) HB2V.out))
  have ⟨L2U, C2U, F2U⟩ := B2U
  have ⟨LGU, CGU, FGU⟩ := BGU
  have gu4 : ∀ a, A4' = some a → a.block ∉ [g] := fun a ha hm => by have h8 := (HF4.out a ha).1; have h9 := LG3; rw [List.mem_singleton] at hm; omega
  have gu5 : ∀ a, A5' = some a → a.block ∉ [g] := fun a ha hm => by have h8 := (HF5.out a ha).1; have h9 := LGZ; rw [List.mem_singleton] at hm; omega
  have HPU4 := Lib.hid (prs_keptT HPZ.out hkZU gu4)
  have HPU5 := Lib.hid (prs_keptT HP5.out hkU gu5)
  have HFU4 : Hid (∀ a, A4' = some a → w.heap.size ≤ a.block ∧ Tag U a.block 76) := Lib.hid (fun a ha => ⟨(HFZ.out a ha).1, (HFZ.out a ha).2.same (hkZU.block _ (HFZ.out a ha).2.lt (gu4 a ha))⟩)
  have HFU5 : Hid (∀ a, A5' = some a → w.heap.size ≤ a.block ∧ Tag U a.block 76) := Lib.hid (fun a ha => ⟨by have h8 := (HF5.out a ha).1; have h9 := hkwZ.size; omega, (HF5.out a ha).2.same (hkU.block _ (HF5.out a ha).2.lt (gu5 a ha))⟩)
  have hgu4 : ∀ a, A4' = some a → a.block ∉ [b2] := fun a ha hm => by have h8 := (HF4.out a ha).1; have h9 := hk3.size; have h7 := HB2V.out.1; rw [List.mem_singleton] at hm; omega
  have hgu5 : ∀ a, A5' = some a → a.block ∉ [b2] := fun a ha hm => by have h8 := (HF5.out a ha).1; have h9 := hk3Z.size; have h6 := hk3.size; have h7 := HB2V.out.1; rw [List.mem_singleton] at hm; omega
  clear C1Z F1Z CGZ FGZ CG5 FG5 hkS5
  go_wp2_with fail
  refine retNamedT (fun Y => Blk Y b2 [.int .i64 f, .slice A4' k4 c4', .slice A5' k5 c5'] ∧ Kept [b2] U Y) ⟨((B2U.set 0 _).set 1 _).set 2 _, (((Kept.refl [b2] U).set b2 0 _ (.inl (by simp))).set b2 1 _ (.inl (by simp))).set b2 2 _ (.inl (by simp))⟩ ?_
  rintro Y ⟨BY, hkY⟩
  have ⟨LY, CY, FY⟩ := BY
  refine bodyPost_ret (by simp [results, Tryz.results35, go_sem, CY]; try rfl) rfl ?_
  exact ⟨A4', k4, c4', A5', k5, c5', rfl, prs_keptT HPU4.out hkY hgu4, prs_keptT HPU5.out hkY hgu5, fun a ha => ⟨(HFU4.out a ha).1, (HFU4.out a ha).2.same (hkY.block _ (HFU4.out a ha).2.lt (hgu4 a ha))⟩, fun a ha => ⟨(HFU5.out a ha).1, (HFU5.out a ha).2.same (hkY.block _ (HFU5.out a ha).2.lt (hgu5 a ha))⟩, (kept_fresh hkwU hkY (by simpa using G2)).toBelow⟩
end Go.Proofs.YtmbihjlflcjlnaaGreat
/- The contract of the reference's Summaries. -/
namespace Go.Proofs.YtmbihjlflcjlnaaGreat
open Go.RowKit Go.Df Go.Df.If
attribute [local go_sem ↓] Go.wp_at_zero Go.wp_at_succ

set_option maxRecDepth 100000 in
set_option maxHeartbeats 8000000 in
theorem rsums_ok {p : Pb} (A1 A2 A3 A4 : Option Addr) (n1 c1 n2 c2 n3 c3 n4 c4 mN F : Nat) (w : World) (hG : Gr w A1 n1 A2 n2 p.ns p.es) (hP : PbW p n1 F mN A1 A2 A3 A4 n2 n3 n4 w) :
    Calls Tryz.prog 13 #[.agg #[.slice A1 n1 c1, .slice A2 n2 c2, .int .i64 mN, .int .i64 (F : Nat), .slice A3 n3 c3, .slice A4 n4 c4]] w fun e w' => ∃ A k c, e = .returned (.tuple #[.slice A k c, .int .i64 0]) ∧ Sums w' A k (sumI p n1) ∧ Below w.heap.size w w' := by
  obtain ⟨i1, hinf1, hy0, hy1, hy2⟩ := info_parts sum_info
  have HG := Lib.hid hG
  have HP := Lib.hid hP
  have hn4 := hP.h4
  have hN8 := hP.N8
  have hF8 := hP.F8
  have hF1 := hP.F1
  have HNE := Lib.hid (sup_parts hP.ok.sup).2.2.1
  have HNL : Hid (p.ns.length = n1) := Lib.hid hP.nd.1
  have HPE : Hid (pbErr ⟨p.ns, p.es, mN, F, p.fl, p.sd⟩ = 0) := Lib.hid (by
    have h9 : pbErr ⟨p.ns, p.es, p.mn, p.F, p.fl, p.sd⟩ = 0 := pb_ok (p := p) hP.ok.sup (by have := hP.ok.f1; have := hP.ok.f2; omega) hP.ok.len (fun x hx => by
      have h1 := hP.ok.fl x hx
      have h2 := fl_end (l := gf p.fl x) hP.ok.f1 hP.ok.f2 h1.1 h1.2.1
      rw [h2, if_neg]
      rintro (h3 | h3)
      · have := h1.2.2.1; omega
      · exact h3 h1.2.2.2) hP.ok.sd
    rw [← hP.hm, ← hP.hF]
    exact h9)
  clear hG hP
  go_enter Tryz.func13, Tryz.ntmps13
  go_upto_region 1 with fail
  refine wp_named (fun W => ∃ b0, w.heap.size = b0 ∧ Blk W b0 [.slice A1 n1 c1, .slice A2 n2 c2, .int .i64 mN, .int .i64 (F : Nat), .slice A3 n3 c3, .slice A4 n4 c4] ∧ Below w.heap.size w W) ⟨_, rfl, ?_, ?_⟩ ?_
  · exact Blk.new _ _ _ _ (by first | rfl | simp)
  · go_grown
  rintro W ⟨b0, e0, B0, hB⟩
  rw [e0]
  have G0 : w.heap.size ≤ b0 := by omega
  clear e0
  have ⟨L0, C0, F0⟩ := B0
  go_upto_region 2 with (go_at_call 16; refine (rifdsck_any A1 A2 A3 A4 n1 c1 n2 c2 n3 c3 n4 c4 mN F p.ns p.es p.fl p.sd _ (HG.out.nd.later hB) (HG.out.ed.later hB) (HP.out.fl.later hB) (HP.out.sd.later hB) (by omega) HG.out.wn HG.out.we).mono ?_; rw [HPE.out]; rintro e w1 ⟨rfl, hb1⟩)
  have hk1 : Kept [] W w1 := (Kept.refl _ _).call hb1
  have B01 := hk1.blk (by simp) B0
  have ⟨L01, C01, F01⟩ := B01
  have hB1 := hk1.below hB hB.size (by simp)
  clear C0 F0
  go_upto_region 5 with (go_at_call 27; refine (redges_any c1 c2 c3 c4 _ (HP.out.later hB1)).mono ?_; rintro e w2 ⟨X, bs, r, c, T, rfl, ht2, hpe2, hb2⟩; have T2 := Lib.hid ht2; have HT2 := Lib.hid hpe2; clear ht2 hpe2)
  refine wp_named (fun V => ∃ g, w2.heap.size = g ∧ Blk V g [.int .i64 (F : Nat), .slice (some ⟨r, 0, none⟩) n1 c] ∧ Kept [] w2 V) ⟨_, rfl, Blk.new _ _ _ _ rfl, (Kept.refl _ _).alloc _⟩ ?_
  rintro V ⟨g, eg, Bg, hkV⟩
  rw [eg]
  have hk1V : Kept [] w1 V := ((Kept.refl [] w1).call hb2).next hkV (by simp)
  have hwV : Below w.heap.size w V := hk1V.below hB1 hB1.size (by simp)
  have hkwV : Kept [] w V := (Kept.refl [] w).call hwV
  have TV := Lib.hid (T2.out.kept0 hkV)
  have B0V := hk1V.blk (by simp) B01
  have HBg := Lib.hid Bg
  have HB0V := Lib.hid B0V
  have HND := Lib.hid (HP.out.nd)
  have HQ : Hid (∀ x, tabQ F T x F = pairL p x) := Lib.hid (fun x => pairL_tab HP.out.ok HP.out.Fn HT2.out x)
  have ⟨LGV, CGV, FGV⟩ := Bg
  have ⟨L0V, C0V, F0V⟩ := B0V
  clear C01 F01 eg Bg B0V
  go_wp2_with fail
  go_loopw [6, 7] (fun s6 s7 wr => ∃ (n : Nat) (A : Option Addr) (k cA : Nat) (l : List SuR), n ≤ n1 ∧ s7 = .int .i64 n ∧ s6 = .slice A k cA ∧ Kept [] V wr ∧ Hid (l.length = k) ∧ Hid (wr.ownsRow V.heap.size 42 3 (.slice A k cA) k (sucells l)) ∧ Hid (RwS V.heap.size 76 wr l (sumI p n))) (fun _ s7 _ => n1 - (intOf s7).toNat)
  case atStart => exact ⟨0, none, 0, 0, [], Nat.zero_le _, rfl, rfl, Kept.refl _ _, Lib.hid rfl, Lib.hid (World.ownsRow_nil _ _ _ _), Lib.hid (RwS.nil _ _ _)⟩
  case round =>
  clear CGV FGV C0V F0V
  obtain ⟨n, A, k, cA, l, hn, rfl, rfl, hkr, HLK, OWN, RW⟩ := hrel
  have ⟨LGr, CGr, FGr⟩ := hkr.blk (by simp) HBg.out
  have ⟨L0r, C0r, F0r⟩ := hkr.blk (by simp) HB0V.out
  have hkn : k ≤ n := by rw [← HLK.out, RW.out.1]; exact sumI_len p n
  by_cases hlt : n < n1
  case neg =>
    obtain rfl : n = n1 := by omega
    clear hlt
    go_wp2_with fail
    go_ret2
    exact ⟨A, k, cA, rfl, Sums.of OWN.out HLK.out RW.out, hkr.below hwV hwV.size (by simp)⟩
  have hkwr : Kept [] w wr := keptTrans hkwV hkr
  have hn9 : (n : Int) < (n1 : Int) := by omega
  obtain ⟨b, o, rfl, hl, hc⟩ := HND.out.2 (by omega)
  obtain ⟨h1, h2, h3⟩ := hc n hlt
  obtain ⟨nf, nk, ni, en⟩ : ∃ nf nk ni, gn p.ns n = ⟨nf, nk, ni⟩ := ⟨_, _, _, rfl⟩
  rw [en] at h1 h2 h3
  have g1 := (hkwr.cell b _ hl (by simp)).trans h1
  have g2 := (hkwr.cell b _ hl (by simp)).trans h2
  have g3 := (hkwr.cell b _ hl (by simp)).trans h3
  have hlr : b < wr.heap.size := Nat.lt_of_lt_of_le hl hkwr.size
  have HEN := Lib.hid en
  have HH1 := Lib.hid h1
  have hlw : b < w.heap.size := hl
  have TR := Lib.hid (TV.out.kept0 hkr)
  clear hc h1 h2 h3 en
  by_cases hk1 : nk = 1
  case neg =>
    have z1 : (nk == 1) = false := by simpa using hk1
    have HS : Hid (sumI p (n + 1) = sumI p n) := Lib.hid (sumI_no (fun h => hk1 (by have := h.1; rw [HEN.out] at this; exact this)))
    clear hk1
    go_wp2_with fail
    exact ⟨⟨n + 1, A, k, cA, l, by omega, by go_num, rfl, hkr, HLK, OWN, by rw [HS.out]; exact RW⟩, by simp [intOf]; omega⟩
  subst hk1
  obtain ⟨v, hv⟩ : ∃ v, T n 0 0 = v := ⟨_, rfl⟩
  have HV := Lib.hid hv
  clear hv
  cases v with
  | false =>
    have HS : Hid (sumI p (n + 1) = sumI p n) := Lib.hid (sumI_no (fun h => by have h9 := (HT2.out n 0 0).2 h.2; rw [HV.out] at h9; cases h9))
    go_wp2_with (go_at_call 34; refine (rtHas_is c 0 n 0 false _ TR.out hN8 hF8 hlt hF1 hF1 HV.out).mono ?_; rintro e w3 ⟨rfl, hb3⟩)
    have hk3 : Kept [] wr w3 := (Kept.refl _ _).call hb3
    exact ⟨⟨n + 1, A, k, cA, l, by omega, by go_num, rfl, keptTrans hkr hk3, HLK, Lib.hid (own_keptT (X := []) OWN.out hk3 (by simp)), by rw [HS.out]; exact Lib.hid (RW.out.kept hk3 (fun _ _ _ => by simp))⟩, by simp [intOf]; omega⟩
  | true =>
  have HS : Hid (sumI p (n + 1) = sumI p n ++ [sumOf p n]) := Lib.hid (sumI_yes (by rw [HEN.out]) ((HT2.out n 0 0).1 HV.out))
  have hwh := Sp.whole_of HNE.out (x := n) (by rw [HNL.out]; exact hlt)
  rw [HEN.out] at hwh
  dsimp only at hwh
  obtain ⟨x3, hx3⟩ := Int.eq_ofNat_of_zero_le hwh.1
  obtain ⟨x4, hx4⟩ := Int.eq_ofNat_of_zero_le hwh.2
  have hx3n : x3 < n1 := by have h9 := Sp.kindAt_lt hwh.1; have := HNL.out; omega
  have hx4n : x4 < n1 := by have h9 := Sp.kindAt_lt hwh.2; have := HNL.out; omega
  have HX3 := Lib.hid hx3
  have HX4 := Lib.hid hx4
  have HSO : Hid (sumOf p n = ⟨nf, tabQ F T x3 F, tabQ F T x4 F⟩) := Lib.hid (by
    unfold sumOf
    rw [HEN.out]
    dsimp only
    rw [hx3, hx4, Int.toNat_natCast, Int.toNat_natCast, HQ.out, HQ.out])
  clear hwh hx3 hx4
  go_upto_region 10 with (go_at_call 34; refine (rtHas_is c 0 n 0 true _ TR.out hN8 hF8 hlt hF1 hF1 HV.out).mono ?_; rintro e w3 ⟨rfl, hb3⟩)
  have hk3 : Kept [] wr w3 := (Kept.refl _ _).call hb3
  have hkV3 : Kept [] V w3 := keptTrans hkr hk3
  have hkw3 : Kept [] w w3 := keptTrans hkwV hkV3
  have ⟨LG3, CG3, FG3⟩ := hkV3.blk (by simp) HBg.out
  have ⟨L03, C03, F03⟩ := hkV3.blk (by simp) HB0V.out
  have gb3 := (hkw3.cell b _ hlw (by simp)).trans HH1.out
  have hl3 : b < w3.heap.size := Nat.lt_of_lt_of_le hlw hkw3.size
  have OW3 := Lib.hid (own_keptT (X := []) OWN.out hk3 (by simp))
  have RW3 := Lib.hid (RW.out.kept hk3 (fun _ _ _ => by simp))
  have HXA : Hid (∀ y ∈ (Value.slice A k cA).ownBlock.toList, V.heap.size ≤ y) := (fun y hy => own_ge OW3.out (by simpa using hy))
  have x0 : b0 ∉ (Value.slice A k cA).ownBlock.toList := fun hm => by have h8 := HXA.out b0 hm; have h9 := HB0V.out.1; omega
  have xg : g ∉ (Value.slice A k cA).ownBlock.toList := fun hm => by have h8 := HXA.out g hm; have h9 := HBg.out.1; omega
  have xb : b ∉ (Value.slice A k cA).ownBlock.toList := fun hm => by have h8 := HXA.out b hm; have h9 := hkwV.size; omega
  have HAPF : Hid (∀ (E T : Option Addr) (ne ce nt ct : Nat), sucells l ++ [.int .i64 nf, .slice E ne ce, .slice T nt ct] = sucells (l ++ [⟨nf, E, ne, ce, T, nt, ct⟩])) := Lib.hid (fun E T ne ce nt ct => sucells_snoc l ⟨nf, E, ne, ce, T, nt, ct⟩)
  have hsV3 := hkV3.size
  clear CGr FGr C0r F0r g1 g2 g3
  -- MARK2
  refine wp_region_E 13 (fun w' => SXv (Value.slice A k cA).ownBlock.toList b0 g b w3 w') (by kernel_rfl) (by (first | (with_reducible assumption) | exact SXv.of (Kept.refl _ _).drew L03 LG3 hl3 x0 xg xb | exact SXv.of (hHeld.1.call (by assumption)) L03 LG3 hl3 x0 xg xb | exact SXv.of (hHeld.1.alloc _) L03 LG3 hl3 x0 xg xb | exact SXv.of HKA.out L03 LG3 hl3 x0 xg xb)) (fun hHeld => ?_)
  refine WE_take 0 (v := ?_) rfl (by kernel_rfl) (fun _ _ _ h => h) (Or.inl ⟨by rfl, ?_⟩) (by assumption) ?_; rotate_left; (· intro w9 hSw; (try dsimp only at hSw); go_simp; try with_reducible rfl); (try simp only [Act.put, List.setIfInBounds_toArray, List.set_cons_zero, List.set_cons_succ])
  refine WE_take 1 (v := ?_) rfl (by kernel_rfl) (fun _ _ _ h => h) (Or.inl ⟨by rfl, ?_⟩) (by assumption) ?_; rotate_left; (· intro w9 hSw; (try dsimp only at hSw); go_simp; try with_reducible rfl); (try simp only [Act.put, List.setIfInBounds_toArray, List.set_cons_zero, List.set_cons_succ])
  refine WE_take 2 (v := ?_) rfl (by kernel_rfl) (fun _ _ _ h => h) (Or.inl ⟨by rfl, ?_⟩) (by assumption) ?_; rotate_left; (· intro w9 hSw; (try dsimp only at hSw); go_simp; try with_reducible rfl); (try simp only [Act.put, List.setIfInBounds_toArray, List.set_cons_zero, List.set_cons_succ])
  refine WE_take 3 (v := ?_) rfl (by kernel_rfl) (fun _ _ _ h => h) (Or.inl ⟨by rfl, ?_⟩) (by assumption) ?_; rotate_left; (· intro w9 hSw; (try dsimp only at hSw); go_simp; try with_reducible rfl); (try simp only [Act.put, List.setIfInBounds_toArray, List.set_cons_zero, List.set_cons_succ])
  refine WE_take 4 (v := ?_) rfl (by kernel_rfl) (fun _ _ _ h => h) (Or.inl ⟨by rfl, ?_⟩) (by assumption) ?_; rotate_left; (· intro w9 hSw; (try dsimp only at hSw); go_simp; try with_reducible rfl); (try simp only [Act.put, List.setIfInBounds_toArray, List.set_cons_zero, List.set_cons_succ])
  refine WE_take 5 (v := ?_) rfl (by kernel_rfl) (fun _ _ _ h => h) (Or.inl ⟨by rfl, ?_⟩) (by assumption) ?_; rotate_left; (· intro w9 hSw; (try dsimp only at hSw); go_simp; try with_reducible rfl); (try simp only [Act.put, List.setIfInBounds_toArray, List.set_cons_zero, List.set_cons_succ])
  refine WE_take 6 (v := ?_) rfl (by kernel_rfl) (fun _ _ _ h => h) (Or.inl ⟨by rfl, ?_⟩) (by assumption) ?_; rotate_left; (· intro w9 hSw; (try dsimp only at hSw); go_simp; try with_reducible rfl); (try simp only [Act.put, List.setIfInBounds_toArray, List.set_cons_zero, List.set_cons_succ])
  refine WE_take 7 (v := ?_) rfl (by kernel_rfl) (fun _ _ _ h => h) (Or.inl ⟨by rfl, ?_⟩) (by assumption) ?_; rotate_left; (· intro w9 hSw; (try dsimp only at hSw); go_simp; try with_reducible rfl); (try simp only [Act.put, List.setIfInBounds_toArray, List.set_cons_zero, List.set_cons_succ])
  refine WE_take 8 (v := ?_) rfl (by kernel_rfl) (fun _ _ _ h => h) (Or.inl ⟨by rfl, ?_⟩) (by assumption) ?_; rotate_left; (· intro w9 hSw; (try dsimp only at hSw); go_simp; try with_reducible rfl); (try simp only [Act.put, List.setIfInBounds_toArray, List.set_cons_zero, List.set_cons_succ])
  refine WE_take 9 (v := ?_) rfl (by kernel_rfl) (fun _ _ _ h => h) (Or.inl ⟨by rfl, ?_⟩) (by assumption) ?_; rotate_left; (· intro w9 hSw; (try dsimp only at hSw); go_simp; try with_reducible rfl); (try simp only [Act.put, List.setIfInBounds_toArray, List.set_cons_zero, List.set_cons_succ])
  refine WE_step 10 rfl (by kernel_rfl) (fun K hK => ?_)
  go_simp
  (go_at_call 35; with_reducible refine (roffunc_any c _ A2 A3 A4 c1 n2 c2 n3 c3 n4 c4 mN F nf p.ns x3 x4 _ (TV.out.kept0 (kept_fresh hkV3 hHeld.1 (fun y hy => HXA.out y hy))) hN8 hF8 (HND.out.later (keptTrans hkwV (kept_fresh hkV3 hHeld.1 (fun y hy => HXA.out y hy))).toBelow) HX3.out HX4.out hx3n hx4n).mono ?_; rintro e w5 ⟨E5, ne5, ce5, T5, nt5, ct5, rfl, hpe5, hpt5, hfe5, hft5, hb5⟩; have HPE5 := Lib.hid hpe5; have HPT5 := Lib.hid hpt5; have HFE5 := Lib.hid hfe5; have HFT5 := Lib.hid hft5; have hkB := Lib.hid (((Kept.refl [] w3).drew).call hb5); have hsB := hkB.out.size; clear hpe5 hpt5 hfe5 hft5)
  (try go_wp2_with fail)
  refine hK.out _ _ ?_ (fun hHeld => ?_)
  · (first | (with_reducible assumption) | exact SXv.of (Kept.refl _ _).drew L03 LG3 hl3 x0 xg xb | exact SXv.of (hHeld.1.call (by assumption)) L03 LG3 hl3 x0 xg xb | exact SXv.of (hHeld.1.alloc _) L03 LG3 hl3 x0 xg xb | exact SXv.of HKA.out L03 LG3 hl3 x0 xg xb)
  clear hK K
  try simp only [Act.put, List.setIfInBounds_toArray, List.set_cons_zero, List.set_cons_succ]
  refine WE_step 11 rfl (by kernel_rfl) (fun K hK => ?_)
  go_simp
  refine hK.out _ _ ?_ (fun hHeld => ?_)
  · (first | (with_reducible assumption) | exact SXv.of (Kept.refl _ _).drew L03 LG3 hl3 x0 xg xb | exact SXv.of (hHeld.1.call (by assumption)) L03 LG3 hl3 x0 xg xb | exact SXv.of (hHeld.1.alloc _) L03 LG3 hl3 x0 xg xb | exact SXv.of HKA.out L03 LG3 hl3 x0 xg xb)
  clear hK K
  try simp only [Act.put, List.setIfInBounds_toArray, List.set_cons_zero, List.set_cons_succ]
  refine WE_step 12 rfl (by kernel_rfl) (fun K hK => ?_)
  (refine step_append_rd _ rfl _ _ 37 rfl V.heap.size 42 i1 (.agg #[.int .i64 0, .slice none 0 0, .slice none 0 0]) 3 56 Tryz.underlying37 hinf1 hy0 hy1 hy2 rfl (by decide) (.slice A k cA) k _ rfl (own_keptT (X := []) OW3.out (hkB.out.alloc _) (by simp)) (some ⟨w5.heap.size, 0, none⟩) 1 1 [.int .i64 nf, .slice E5 ne5 ce5, .slice T5 nt5 ct5] rfl (new3T _ _ _ _ _ _ rfl) (fun h => by cases h) (by intro u hu; simp at hu; rcases hu with rfl | rfl | rfl <;> rfl) (k + 1) rfl _ (HAPF.out E5 T5 ne5 ce5 nt5 ct5) (by unfold maxLen; omega) (by omega) (by simp; omega) ?_; intro A9 c9 w9 hown9 hk9 hat9; have HKA := Lib.hid (((keptWide hkB.out (by simp)).alloc _).next hk9 (fun y hy => Or.inl hy) : Kept (Value.slice A k cA).ownBlock.toList w3 w9); have HO9 := Lib.hid hown9; have HK9 := Lib.hid hk9; clear hown9 hk9 hat9)
  refine hK.out _ _ ?_ (fun hHeld => ?_)
  · (first | (with_reducible assumption) | exact SXv.of (Kept.refl _ _).drew L03 LG3 hl3 x0 xg xb | exact SXv.of (hHeld.1.call (by assumption)) L03 LG3 hl3 x0 xg xb | exact SXv.of (hHeld.1.alloc _) L03 LG3 hl3 x0 xg xb | exact SXv.of HKA.out L03 LG3 hl3 x0 xg xb)
  clear hK K
  try simp only [Act.put, List.setIfInBounds_toArray, List.set_cons_zero, List.set_cons_succ]
  refine WE_last rfl (by kernel_rfl) (fun K hK => ?_)
  go_simp
  refine hK.out _ _ ?_
  clear hK K
  -- MARK3
  have OW5 := own_keptT (X := []) OW3.out hkB.out (by simp)
  have hk59 : Kept (Value.slice A k cA).ownBlock.toList w5 w9 := ((Kept.refl _ w5).alloc _).next HK9.out (fun y hy => Or.inl hy)
  have RW5 := (RW3.out.kept hkB.out (fun _ _ _ => by simp)).snoc (x := ⟨nf, E5, ne5, ce5, T5, nt5, ct5⟩) (u := ⟨nf, tabQ F T x3 F, tabQ F T x4 F⟩) rfl HPE5.out HPT5.out
    (fun a ha => ⟨by have h8 := (HFE5.out a ha).1; simp at h8; omega, (HFE5.out a ha).2⟩)
    (fun a ha => ⟨by have h8 := (HFT5.out a ha).1; simp at h8; omega, (HFT5.out a ha).2⟩)
  have RW9 := Lib.hid (RW5.kept hk59 (fun b hb _ hm => by
    have h1 : (Value.slice A k cA).ownBlock = some b := by simpa using hm
    exact absurd rfl (hb.ne (own_tag OW5 h1) (by decide))))
  have hkV9 : Kept [] V w9 := kept_fresh hkV3 HKA.out (fun y hy => HXA.out y hy)
  clear OW5 RW5
  go_wp2_with fail
  exact ⟨⟨n + 1, A9, k + 1, c9, l ++ [⟨nf, E5, ne5, ce5, T5, nt5, ct5⟩], by omega, by go_num, rfl, hkV9, Lib.hid (by rw [List.length_append, HLK.out]; rfl), HO9, by rw [HS.out, HSO.out]; exact RW9⟩, by simp [intOf]; omega⟩

set_option maxRecDepth 100000 in
set_option maxHeartbeats 4000000 in
theorem rsums_bad {p : Pb} (A1 A2 A3 A4 : Option Addr) (n1 c1 n2 c2 n3 c3 n4 c4 : Nat) (w : World) (hG : Gr w A1 n1 A2 n2 p.ns p.es) (hF : Flw w A3 n3 p.fl) (hS : Sds w A4 n4 p.sd) (hn4 : n4 ≤ 9223372036854775807) (pe : Int) (hpe : pbErr p = pe) (h0 : pe ≠ 0) :
    Calls Tryz.prog 13 #[.agg #[.slice A1 n1 c1, .slice A2 n2 c2, .int .i64 p.mn, .int .i64 p.F, .slice A3 n3 c3, .slice A4 n4 c4]] w fun e w' => e = .returned (.tuple #[.slice none 0 0, .int .i64 pe]) ∧ Below w.heap.size w w' := by
  have HG := Lib.hid hG
  have HF := Lib.hid hF
  have HS := Lib.hid hS
  have HPE : Hid (pbErr ⟨p.ns, p.es, p.mn, p.F, p.fl, p.sd⟩ = pe) := Lib.hid hpe
  have h0' : (pe != 0) = true := by simpa using h0
  clear hG hF hS hpe h0
  go_enter Tryz.func13, Tryz.ntmps13
  go_upto_region 1 with fail
  refine wp_named (fun W => ∃ b0, w.heap.size = b0 ∧ Blk W b0 [.slice A1 n1 c1, .slice A2 n2 c2, .int .i64 p.mn, .int .i64 p.F, .slice A3 n3 c3, .slice A4 n4 c4] ∧ Below w.heap.size w W) ⟨_, rfl, ?_, ?_⟩ ?_
  · exact Blk.new _ _ _ _ (by first | rfl | simp)
  · go_grown
  rintro W ⟨b0, e0, B0, hB⟩
  rw [e0]
  have G0 : w.heap.size ≤ b0 := by omega
  clear e0
  have ⟨L0, C0, F0⟩ := B0
  go_wp2_with (go_at_call 16; refine (rifdsck_any A1 A2 A3 A4 n1 c1 n2 c2 n3 c3 n4 c4 p.mn p.F p.ns p.es p.fl p.sd _ (HG.out.nd.later hB) (HG.out.ed.later hB) (HF.out.later hB) (HS.out.later hB) hn4 HG.out.wn HG.out.we).mono ?_; rw [HPE.out]; rintro e w1 ⟨rfl, hb1⟩)
  go_ret2
  exact ⟨rfl, hB.trans (hb1.mono hB.size)⟩
end Go.Proofs.YtmbihjlflcjlnaaGreat
/- The walk of the law IfdsSummaries. -/
namespace Go.Proofs.YtmbihjlflcjlnaaGreat
open Go.RowKit Go.Df Go.Df.If
attribute [local go_sem ↓] Go.wp_at_zero Go.wp_at_succ

set_option maxRecDepth 100000 in
set_option maxHeartbeats 8000000 in
theorem ifdsSums_any {p : Pb} (A1 A2 A3 A4 : Option Addr) (n1 c1 n2 c2 n3 c3 n4 c4 : Nat) (w : World) (hG : Gr w A1 n1 A2 n2 p.ns p.es) (hF : Flw w A3 n3 p.fl) (hS : Sds w A4 n4 p.sd) (hn4 : n4 ≤ 9223372036854775807) :
    Calls Tryz.prog 4 #[.agg #[.slice A1 n1 c1, .slice A2 n2 c2, .int .i64 p.mn, .int .i64 p.F, .slice A3 n3 c3, .slice A4 n4 c4]] w fun e w' => e = .returned (.bool true) ∧ Below w.heap.size w w' := by
  have HG := Lib.hid hG
  have HF := Lib.hid hF
  have HS := Lib.hid hS
  obtain ⟨pe, hpe⟩ : ∃ pe, pbErr p = pe := ⟨_, rfl⟩
  have HPE := Lib.hid hpe
  clear hG hF hS hpe
  go_enter Tryz.func4, Tryz.ntmps4
  go_upto_region 1 with fail
  refine wp_named (fun W => ∃ b0, w.heap.size = b0 ∧ Blk W b0 [.slice A1 n1 c1, .slice A2 n2 c2, .int .i64 p.mn, .int .i64 p.F, .slice A3 n3 c3, .slice A4 n4 c4] ∧ Below w.heap.size w W) ⟨_, rfl, ?_, ?_⟩ ?_
  · exact Blk.new _ _ _ _ (by first | rfl | simp)
  · go_grown
  rintro W ⟨b0, e0, B0, hB⟩
  rw [e0]
  have G0 : w.heap.size ≤ b0 := by omega
  clear e0
  have ⟨L0, C0, F0⟩ := B0
  go_wp2_with fail
  refine (small30_any A1 A2 A3 A4 n1 c1 n2 c2 n3 c3 n4 c4 p.mn p.F p.fl _ (HF.out.later hB)).mono ?_
  rintro e w1 ⟨⟨b, rfl, hsm⟩, hb1⟩
  have hk1 : Kept [] W w1 := (Kept.refl _ _).call hb1
  have B01 := hk1.blk (by simp) B0
  have ⟨L01, C01, F01⟩ := B01
  have hB1 : Below w.heap.size w w1 := hk1.below hB hB.size (by simp)
  clear C0 F0
  cases b with
  | false =>
    go_wp2_with fail
    go_ret
    exact ⟨rfl, hB1⟩
  | true =>
  have hs := hsm rfl
  have hn20 : n4 ≤ 1000000 := by omega
  have hn140 : n1 ≤ 1000000 := by omega
  clear hsm hs
  by_cases h0 : pe = 0
  case neg =>
    as_aux_lemma =>
      go_upto_region 4 with (go_at_call 12; refine (sums_bad A1 A2 A3 A4 n1 c1 n2 c2 n3 c3 n4 c4 _ (HG.out.later hB1) (HF.out.later hB1) (HS.out.later hB1) hn4 pe HPE.out h0).mono ?_; rintro e w2 ⟨rfl, hb2⟩)
      have hk12 : Kept [] w1 w2 := (Kept.refl _ _).call hb2
      have ⟨L02, C02, F02⟩ := hk12.blk (by simp) B01
      have hB2 : Below w.heap.size w w2 := hk12.below hB1 hB1.size (by simp)
      clear C01 F01
      go_wp2_with (go_at_call 13; refine (rsums_bad A1 A2 A3 A4 n1 c1 n2 c2 n3 c3 n4 c4 _ (HG.out.later hB2) (HF.out.later hB2) (HS.out.later hB2) hn4 pe HPE.out h0).mono ?_; rintro e w3 ⟨rfl, hb3⟩)
      have hB3 : Below w.heap.size w w3 := ((Kept.refl [] w2).call hb3).below hB2 hB2.size (by simp)
      go_loopw [7] (fun s7 wr => s7 = .int .i64 0 ∧ w3 = wr) (fun _ _ => 0)
      case atStart => exact ⟨rfl, rfl⟩
      case round =>
      obtain ⟨rfl, rfl⟩ := hrel
      go_wp2_with (go_at_call 11; refine (knows_any _).mono ?_; rintro e w5 ⟨rfl, hb5⟩)
      go_ret
      exact ⟨rfl, ((Kept.refl [] w3).call hb5).below hB3 hB3.size (by simp)⟩
  subst h0
  have HO := Lib.hid (ok_of HPE.out)
  have hmain := main_in (sup_parts HO.out.sup).2.2.1
  obtain ⟨mN, hmN⟩ := Int.eq_ofNat_of_zero_le hmain.1
  obtain ⟨Fn, hFn⟩ := Int.eq_ofNat_of_zero_le (show 0 ≤ p.F by have := HO.out.f1; omega)
  have HMN := Lib.hid hmN
  have HFN := Lib.hid hFn
  clear hmain hmN hFn
  go_upto_region 4 with (go_at_call 12; refine (sums_any A1 A2 A3 A4 n1 c1 n2 c2 n3 c3 n4 c4 _ (HG.out.later hB1) (HF.out.later hB1) (HS.out.later hB1) hn20 HPE.out).mono ?_; rintro e w2 ⟨Ap, kp, cp, rfl, hp2, hb2⟩; have HP2 := Lib.hid hp2; clear hp2)
  have hk12 : Kept [] w1 w2 := (Kept.refl _ _).call hb2
  have ⟨L02, C02, F02⟩ := hk12.blk (by simp) B01
  have hB2 : Below w.heap.size w w2 := hk12.below hB1 hB1.size (by simp)
  have HR : Hid (Calls Tryz.prog 13 #[.agg #[.slice A1 n1 c1, .slice A2 n2 c2, .int .i64 p.mn, .int .i64 p.F, .slice A3 n3 c3, .slice A4 n4 c4]] w2 fun e w' => ∃ A k c, e = .returned (.tuple #[.slice A k c, .int .i64 0]) ∧ Sums w' A k (sumI p n1) ∧ Below w2.heap.size w2 w') := Lib.hid (by
    have h9 := rsums_ok (p := p) A1 A2 A3 A4 n1 c1 n2 c2 n3 c3 n4 c4 mN Fn w2 (HG.out.later hB2) ⟨(HG.out.later hB2).nd, (HG.out.later hB2).ed, HF.out.later hB2, HS.out.later hB2, HFN.out, HMN.out, HO.out, hn20⟩
    rw [← HMN.out, ← HFN.out] at h9
    exact h9)
  clear C01 F01
  go_upto_region 5 with (go_at_call 13; refine HR.out.mono ?_; rintro e w3 ⟨Aq, kq, cq, rfl, hq3, hb3⟩; have HQ3 := Lib.hid hq3; clear hq3)
  obtain rfl : kp = kq := HP2.out.1.symm.trans HQ3.out.1
  have hk23 : Kept [] w2 w3 := (Kept.refl _ _).call hb3
  have hB3 : Below w.heap.size w w3 := hk23.below hB2 hB2.size (by simp)
  have HP3 := Lib.hid (HP2.out.later hb3)
  have hkp : kp ≤ 1000000 := by rw [← HP2.out.1]; exact Nat.le_trans (sumI_len p n1) hn140
  clear C02 F02
  go_wp2_with fail
  -- MARK1
  go_loopw [7] (fun s7 wr => ∃ i : Nat, i ≤ kp ∧ s7 = .int .i64 i ∧ Kept [] w3 wr) (fun s7 _ => kp - (intOf s7).toNat)
  case atStart => exact ⟨0, Nat.zero_le _, rfl, Kept.refl _ _⟩
  case round =>
  obtain ⟨i, hi, rfl, hkr⟩ := hrel
  by_cases hlt : i < kp
  case neg =>
    obtain rfl : i = kp := by omega
    go_wp2_with (go_at_call 11; refine (knows_any _).mono ?_; rintro e w5 ⟨rfl, hb5⟩)
    go_ret
    exact ⟨rfl, (hkr.call hb5).below hB3 hB3.size (by simp)⟩
  obtain ⟨u, hu⟩ : ∃ u, (sumI p n1)[i]? = some u := ⟨_, List.getElem?_eq_getElem (by rw [HP2.out.1]; exact hlt)⟩
  obtain ⟨bp, op, rfl, hlp, hcp⟩ := HP3.out.2 (by omega)
  obtain ⟨bq, oq, rfl, hlq, hcq⟩ := HQ3.out.2 (by omega)
  obtain ⟨E, ne, ce, T, nt, ct, p1, p2, p3, p4, p5⟩ := hcp i u hu
  obtain ⟨E', ne', ce', T', nt', ct', q1, q2, q3, q4, q5⟩ := hcq i u hu
  obtain rfl : ne = ne' := p4.1.symm.trans q4.1
  obtain rfl : nt = nt' := p5.1.symm.trans q5.1
  obtain ⟨uf, ux, uy⟩ := u
  dsimp only at p1 p4 p5 q1 q4 q5
  have hmem := List.mem_of_getElem? hu
  have hlens : ux.length ≤ 9223372036854775807 ∧ uy.length ≤ 9223372036854775807 := by
    have h8 := sumI_pairs HO.out n1 _ hmem
    dsimp only at h8
    omega
  have hne : ne ≤ 9223372036854775807 := by have := p4.1; omega
  have hnt : nt ≤ 9223372036854775807 := by have := p5.1; omega
  have r1 := (hkr.cell bp _ hlp (by simp)).trans p1
  have r2 := (hkr.cell bp _ hlp (by simp)).trans p2
  have r3 := (hkr.cell bp _ hlp (by simp)).trans p3
  have r4 := (hkr.cell bq _ hlq (by simp)).trans q1
  have r5 := (hkr.cell bq _ hlq (by simp)).trans q2
  have r6 := (hkr.cell bq _ hlq (by simp)).trans q3
  have l1 : bp < wr.heap.size := Nat.lt_of_lt_of_le hlp hkr.size
  have l2 : bq < wr.heap.size := Nat.lt_of_lt_of_le hlq hkr.size
  have HE1 := Lib.hid p4
  have HE2 := Lib.hid q4
  have HT1 := Lib.hid p5
  have HT2 := Lib.hid q5
  have hi9 : (i : Int) < (kp : Int) := by omega
  clear hcp hcq p1 p2 p3 p4 p5 q1 q2 q3 q4 q5 hu hmem hlens
  go_upto_region 10 with fail
  refine wp_region_E 38 (fun w' => SX0 wr w') (by kernel_rfl) (by (repeat' first | (with_reducible assumption) | (with_reducible exact SX0.init _) | (with_reducible exact SX0.refl _) | (with_reducible refine SX0.alloc ?_ _) | (with_reducible refine SX0.call ?_ (by assumption)) | (with_reducible refine SX0.set ?_ _ _ _ ?_) | (with_reducible refine SX0.drew ?_) | (simp; done) | omega | (simp; omega))) (fun hHeld => ?_)
  refine WE_take 0 (v := ?_) rfl (by kernel_rfl) (fun _ _ _ h => h) (Or.inl ⟨by rfl, ?_⟩) (by assumption) ?_; rotate_left; (· intro w9 hSw; (try dsimp only at hSw); go_simp; try with_reducible rfl); (try simp only [Act.put, List.setIfInBounds_toArray, List.set_cons_zero, List.set_cons_succ])
  refine WE_take 1 (v := ?_) rfl (by kernel_rfl) (fun _ _ _ h => h) (Or.inl ⟨by rfl, ?_⟩) (by assumption) ?_; rotate_left; (· intro w9 hSw; (try dsimp only at hSw); go_simp; try with_reducible rfl); (try simp only [Act.put, List.setIfInBounds_toArray, List.set_cons_zero, List.set_cons_succ])
  refine WE_take 2 (v := ?_) rfl (by kernel_rfl) (fun _ _ _ h => h) (Or.inl ⟨by rfl, ?_⟩) (by assumption) ?_; rotate_left; (· intro w9 hSw; (try dsimp only at hSw); go_simp; try with_reducible rfl); (try simp only [Act.put, List.setIfInBounds_toArray, List.set_cons_zero, List.set_cons_succ])
  refine WE_take 3 (v := ?_) rfl (by kernel_rfl) (fun _ _ _ h => h) (Or.inl ⟨by rfl, ?_⟩) (by assumption) ?_; rotate_left; (· intro w9 hSw; (try dsimp only at hSw); go_simp; try with_reducible rfl); (try simp only [Act.put, List.setIfInBounds_toArray, List.set_cons_zero, List.set_cons_succ])
  refine WE_take 4 (v := ?_) rfl (by kernel_rfl) (fun _ _ _ h => h) (Or.inl ⟨by rfl, ?_⟩) (by assumption) ?_; rotate_left; (· intro w9 hSw; (try dsimp only at hSw); go_simp; try with_reducible rfl); (try simp only [Act.put, List.setIfInBounds_toArray, List.set_cons_zero, List.set_cons_succ])
  refine WE_take 5 (v := ?_) rfl (by kernel_rfl) (fun _ _ _ h => h) (Or.inl ⟨by rfl, ?_⟩) (by assumption) ?_; rotate_left; (· intro w9 hSw; (try dsimp only at hSw); go_simp; try with_reducible rfl); (try simp only [Act.put, List.setIfInBounds_toArray, List.set_cons_zero, List.set_cons_succ])
  refine WE_take 6 (v := ?_) rfl (by kernel_rfl) (fun _ _ _ h => h) (Or.inl ⟨by rfl, ?_⟩) (by assumption) ?_; rotate_left; (· intro w9 hSw; (try dsimp only at hSw); go_simp; try with_reducible rfl); (try simp only [Act.put, List.setIfInBounds_toArray, List.set_cons_zero, List.set_cons_succ])
  refine WE_take 7 (v := ?_) rfl (by kernel_rfl) (fun _ _ _ h => h) (Or.inl ⟨by rfl, ?_⟩) (by assumption) ?_; rotate_left; (· intro w9 hSw; (try dsimp only at hSw); go_simp; try with_reducible rfl); (try simp only [Act.put, List.setIfInBounds_toArray, List.set_cons_zero, List.set_cons_succ])
  refine WE_take 8 (v := ?_) rfl (by kernel_rfl) (fun _ _ _ h => h) (Or.inl ⟨by rfl, ?_⟩) (by assumption) ?_; rotate_left; (· intro w9 hSw; (try dsimp only at hSw); go_simp; try with_reducible rfl); (try simp only [Act.put, List.setIfInBounds_toArray, List.set_cons_zero, List.set_cons_succ])
  refine WE_take 9 (v := ?_) rfl (by kernel_rfl) (fun _ _ _ h => h) (Or.inl ⟨by rfl, ?_⟩) (by assumption) ?_; rotate_left; (· intro w9 hSw; (try dsimp only at hSw); go_simp; try with_reducible rfl); (try simp only [Act.put, List.setIfInBounds_toArray, List.set_cons_zero, List.set_cons_succ])
  refine WE_take 10 (v := ?_) rfl (by kernel_rfl) (fun _ _ _ h => h) (Or.inl ⟨by rfl, ?_⟩) (by assumption) ?_; rotate_left; (· intro w9 hSw; (try dsimp only at hSw); go_simp; try with_reducible rfl); (try simp only [Act.put, List.setIfInBounds_toArray, List.set_cons_zero, List.set_cons_succ])
  refine WE_take 11 (v := ?_) rfl (by kernel_rfl) (fun _ _ _ h => h) (Or.inl ⟨by rfl, ?_⟩) (by assumption) ?_; rotate_left; (· intro w9 hSw; (try dsimp only at hSw); go_simp; try with_reducible rfl); (try simp only [Act.put, List.setIfInBounds_toArray, List.set_cons_zero, List.set_cons_succ])
  first | (refine WE_take 12 (v := undef) rfl (by kernel_rfl) (fun _ _ _ h => h) (Or.inr ⟨by rfl, rfl⟩) (by assumption) ?_; (try simp only [Act.put, List.setIfInBounds_toArray, List.set_cons_zero, List.set_cons_succ])) | (refine WE_take 12 (v := ?_) rfl (by kernel_rfl) (fun _ _ _ h => h) (Or.inl ⟨by rfl, ?_⟩) (by assumption) ?_; rotate_left; (· intro w9 hSw; (try dsimp only at hSw); go_simp; try with_reducible rfl); (try simp only [Act.put, List.setIfInBounds_toArray, List.set_cons_zero, List.set_cons_succ]))
  first | (refine WE_take 13 (v := undef) rfl (by kernel_rfl) (fun _ _ _ h => h) (Or.inr ⟨by rfl, rfl⟩) (by assumption) ?_; (try simp only [Act.put, List.setIfInBounds_toArray, List.set_cons_zero, List.set_cons_succ])) | (refine WE_take 13 (v := ?_) rfl (by kernel_rfl) (fun _ _ _ h => h) (Or.inl ⟨by rfl, ?_⟩) (by assumption) ?_; rotate_left; (· intro w9 hSw; (try dsimp only at hSw); go_simp; try with_reducible rfl); (try simp only [Act.put, List.setIfInBounds_toArray, List.set_cons_zero, List.set_cons_succ]))
  first | (refine WE_take 14 (v := undef) rfl (by kernel_rfl) (fun _ _ _ h => h) (Or.inr ⟨by rfl, rfl⟩) (by assumption) ?_; (try simp only [Act.put, List.setIfInBounds_toArray, List.set_cons_zero, List.set_cons_succ])) | (refine WE_take 14 (v := ?_) rfl (by kernel_rfl) (fun _ _ _ h => h) (Or.inl ⟨by rfl, ?_⟩) (by assumption) ?_; rotate_left; (· intro w9 hSw; (try dsimp only at hSw); go_simp; try with_reducible rfl); (try simp only [Act.put, List.setIfInBounds_toArray, List.set_cons_zero, List.set_cons_succ]))
  first | (refine WE_take 15 (v := undef) rfl (by kernel_rfl) (fun _ _ _ h => h) (Or.inr ⟨by rfl, rfl⟩) (by assumption) ?_; (try simp only [Act.put, List.setIfInBounds_toArray, List.set_cons_zero, List.set_cons_succ])) | (refine WE_take 15 (v := ?_) rfl (by kernel_rfl) (fun _ _ _ h => h) (Or.inl ⟨by rfl, ?_⟩) (by assumption) ?_; rotate_left; (· intro w9 hSw; (try dsimp only at hSw); go_simp; try with_reducible rfl); (try simp only [Act.put, List.setIfInBounds_toArray, List.set_cons_zero, List.set_cons_succ]))
  first | (refine WE_take 16 (v := undef) rfl (by kernel_rfl) (fun _ _ _ h => h) (Or.inr ⟨by rfl, rfl⟩) (by assumption) ?_; (try simp only [Act.put, List.setIfInBounds_toArray, List.set_cons_zero, List.set_cons_succ])) | (refine WE_take 16 (v := ?_) rfl (by kernel_rfl) (fun _ _ _ h => h) (Or.inl ⟨by rfl, ?_⟩) (by assumption) ?_; rotate_left; (· intro w9 hSw; (try dsimp only at hSw); go_simp; try with_reducible rfl); (try simp only [Act.put, List.setIfInBounds_toArray, List.set_cons_zero, List.set_cons_succ]))
  first | (refine WE_take 17 (v := undef) rfl (by kernel_rfl) (fun _ _ _ h => h) (Or.inr ⟨by rfl, rfl⟩) (by assumption) ?_; (try simp only [Act.put, List.setIfInBounds_toArray, List.set_cons_zero, List.set_cons_succ])) | (refine WE_take 17 (v := ?_) rfl (by kernel_rfl) (fun _ _ _ h => h) (Or.inl ⟨by rfl, ?_⟩) (by assumption) ?_; rotate_left; (· intro w9 hSw; (try dsimp only at hSw); go_simp; try with_reducible rfl); (try simp only [Act.put, List.setIfInBounds_toArray, List.set_cons_zero, List.set_cons_succ]))
  first | (refine WE_take 18 (v := undef) rfl (by kernel_rfl) (fun _ _ _ h => h) (Or.inr ⟨by rfl, rfl⟩) (by assumption) ?_; (try simp only [Act.put, List.setIfInBounds_toArray, List.set_cons_zero, List.set_cons_succ])) | (refine WE_take 18 (v := ?_) rfl (by kernel_rfl) (fun _ _ _ h => h) (Or.inl ⟨by rfl, ?_⟩) (by assumption) ?_; rotate_left; (· intro w9 hSw; (try dsimp only at hSw); go_simp; try with_reducible rfl); (try simp only [Act.put, List.setIfInBounds_toArray, List.set_cons_zero, List.set_cons_succ]))
  first | (refine WE_take 19 (v := undef) rfl (by kernel_rfl) (fun _ _ _ h => h) (Or.inr ⟨by rfl, rfl⟩) (by assumption) ?_; (try simp only [Act.put, List.setIfInBounds_toArray, List.set_cons_zero, List.set_cons_succ])) | (refine WE_take 19 (v := ?_) rfl (by kernel_rfl) (fun _ _ _ h => h) (Or.inl ⟨by rfl, ?_⟩) (by assumption) ?_; rotate_left; (· intro w9 hSw; (try dsimp only at hSw); go_simp; try with_reducible rfl); (try simp only [Act.put, List.setIfInBounds_toArray, List.set_cons_zero, List.set_cons_succ]))
  first | (refine WE_take 20 (v := undef) rfl (by kernel_rfl) (fun _ _ _ h => h) (Or.inr ⟨by rfl, rfl⟩) (by assumption) ?_; (try simp only [Act.put, List.setIfInBounds_toArray, List.set_cons_zero, List.set_cons_succ])) | (refine WE_take 20 (v := ?_) rfl (by kernel_rfl) (fun _ _ _ h => h) (Or.inl ⟨by rfl, ?_⟩) (by assumption) ?_; rotate_left; (· intro w9 hSw; (try dsimp only at hSw); go_simp; try with_reducible rfl); (try simp only [Act.put, List.setIfInBounds_toArray, List.set_cons_zero, List.set_cons_succ]))
  first | (refine WE_take 21 (v := undef) rfl (by kernel_rfl) (fun _ _ _ h => h) (Or.inr ⟨by rfl, rfl⟩) (by assumption) ?_; (try simp only [Act.put, List.setIfInBounds_toArray, List.set_cons_zero, List.set_cons_succ])) | (refine WE_take 21 (v := ?_) rfl (by kernel_rfl) (fun _ _ _ h => h) (Or.inl ⟨by rfl, ?_⟩) (by assumption) ?_; rotate_left; (· intro w9 hSw; (try dsimp only at hSw); go_simp; try with_reducible rfl); (try simp only [Act.put, List.setIfInBounds_toArray, List.set_cons_zero, List.set_cons_succ]))
  refine WE_step 22 rfl (by kernel_rfl) (fun K hK => ?_)
  go_simp
  (first | (go_at_call 14; with_reducible refine (psame_eq E E' ne ce ce' ux _ (HE1.out.later (keptTrans hkr hHeld.1).toBelow) (HE2.out.later (keptTrans hkr hHeld.1).toBelow) hne).mono ?_; rintro e w5 ⟨rfl, hb5⟩) | (go_at_call 14; with_reducible refine (psame_eq T T' nt ct ct' uy _ (HT1.out.later (keptTrans hkr hHeld.1).toBelow) (HT2.out.later (keptTrans hkr hHeld.1).toBelow) hnt).mono ?_; rintro e w6 ⟨rfl, hb6⟩))
  (try go_wp2_with fail)
  refine hK.out _ _ ?_ (fun hHeld => ?_)
  · (repeat' first | (with_reducible assumption) | (with_reducible exact SX0.init _) | (with_reducible exact SX0.refl _) | (with_reducible refine SX0.alloc ?_ _) | (with_reducible refine SX0.call ?_ (by assumption)) | (with_reducible refine SX0.set ?_ _ _ _ ?_) | (with_reducible refine SX0.drew ?_) | (simp; done) | omega | (simp; omega))
  clear hK K
  try simp only [Act.put, List.setIfInBounds_toArray, List.set_cons_zero, List.set_cons_succ]
  first | (refine WE_take 23 (v := undef) rfl (by kernel_rfl) (fun _ _ _ h => h) (Or.inr ⟨by rfl, rfl⟩) (by assumption) ?_; (try simp only [Act.put, List.setIfInBounds_toArray, List.set_cons_zero, List.set_cons_succ])) | (refine WE_take 23 (v := ?_) rfl (by kernel_rfl) (fun _ _ _ h => h) (Or.inl ⟨by rfl, ?_⟩) (by assumption) ?_; rotate_left; (· intro w9 hSw; (try dsimp only at hSw); go_simp; try with_reducible rfl); (try simp only [Act.put, List.setIfInBounds_toArray, List.set_cons_zero, List.set_cons_succ]))
  refine WE_take 24 (v := ?_) rfl (by kernel_rfl) (fun _ _ _ h => h) (Or.inl ⟨by rfl, ?_⟩) (by assumption) ?_; rotate_left; (· intro w9 hSw; (try dsimp only at hSw); go_simp; try with_reducible rfl); (try simp only [Act.put, List.setIfInBounds_toArray, List.set_cons_zero, List.set_cons_succ])
  refine WE_take 25 (v := ?_) rfl (by kernel_rfl) (fun _ _ _ h => h) (Or.inl ⟨by rfl, ?_⟩) (by assumption) ?_; rotate_left; (· intro w9 hSw; (try dsimp only at hSw); go_simp; try with_reducible rfl); (try simp only [Act.put, List.setIfInBounds_toArray, List.set_cons_zero, List.set_cons_succ])
  first | (refine WE_take 26 (v := undef) rfl (by kernel_rfl) (fun _ _ _ h => h) (Or.inr ⟨by rfl, rfl⟩) (by assumption) ?_; (try simp only [Act.put, List.setIfInBounds_toArray, List.set_cons_zero, List.set_cons_succ])) | (refine WE_take 26 (v := ?_) rfl (by kernel_rfl) (fun _ _ _ h => h) (Or.inl ⟨by rfl, ?_⟩) (by assumption) ?_; rotate_left; (· intro w9 hSw; (try dsimp only at hSw); go_simp; try with_reducible rfl); (try simp only [Act.put, List.setIfInBounds_toArray, List.set_cons_zero, List.set_cons_succ]))
  first | (refine WE_take 27 (v := undef) rfl (by kernel_rfl) (fun _ _ _ h => h) (Or.inr ⟨by rfl, rfl⟩) (by assumption) ?_; (try simp only [Act.put, List.setIfInBounds_toArray, List.set_cons_zero, List.set_cons_succ])) | (refine WE_take 27 (v := ?_) rfl (by kernel_rfl) (fun _ _ _ h => h) (Or.inl ⟨by rfl, ?_⟩) (by assumption) ?_; rotate_left; (· intro w9 hSw; (try dsimp only at hSw); go_simp; try with_reducible rfl); (try simp only [Act.put, List.setIfInBounds_toArray, List.set_cons_zero, List.set_cons_succ]))
  first | (refine WE_take 28 (v := undef) rfl (by kernel_rfl) (fun _ _ _ h => h) (Or.inr ⟨by rfl, rfl⟩) (by assumption) ?_; (try simp only [Act.put, List.setIfInBounds_toArray, List.set_cons_zero, List.set_cons_succ])) | (refine WE_take 28 (v := ?_) rfl (by kernel_rfl) (fun _ _ _ h => h) (Or.inl ⟨by rfl, ?_⟩) (by assumption) ?_; rotate_left; (· intro w9 hSw; (try dsimp only at hSw); go_simp; try with_reducible rfl); (try simp only [Act.put, List.setIfInBounds_toArray, List.set_cons_zero, List.set_cons_succ]))
  first | (refine WE_take 29 (v := undef) rfl (by kernel_rfl) (fun _ _ _ h => h) (Or.inr ⟨by rfl, rfl⟩) (by assumption) ?_; (try simp only [Act.put, List.setIfInBounds_toArray, List.set_cons_zero, List.set_cons_succ])) | (refine WE_take 29 (v := ?_) rfl (by kernel_rfl) (fun _ _ _ h => h) (Or.inl ⟨by rfl, ?_⟩) (by assumption) ?_; rotate_left; (· intro w9 hSw; (try dsimp only at hSw); go_simp; try with_reducible rfl); (try simp only [Act.put, List.setIfInBounds_toArray, List.set_cons_zero, List.set_cons_succ]))
  first | (refine WE_take 30 (v := undef) rfl (by kernel_rfl) (fun _ _ _ h => h) (Or.inr ⟨by rfl, rfl⟩) (by assumption) ?_; (try simp only [Act.put, List.setIfInBounds_toArray, List.set_cons_zero, List.set_cons_succ])) | (refine WE_take 30 (v := ?_) rfl (by kernel_rfl) (fun _ _ _ h => h) (Or.inl ⟨by rfl, ?_⟩) (by assumption) ?_; rotate_left; (· intro w9 hSw; (try dsimp only at hSw); go_simp; try with_reducible rfl); (try simp only [Act.put, List.setIfInBounds_toArray, List.set_cons_zero, List.set_cons_succ]))
  first | (refine WE_take 31 (v := undef) rfl (by kernel_rfl) (fun _ _ _ h => h) (Or.inr ⟨by rfl, rfl⟩) (by assumption) ?_; (try simp only [Act.put, List.setIfInBounds_toArray, List.set_cons_zero, List.set_cons_succ])) | (refine WE_take 31 (v := ?_) rfl (by kernel_rfl) (fun _ _ _ h => h) (Or.inl ⟨by rfl, ?_⟩) (by assumption) ?_; rotate_left; (· intro w9 hSw; (try dsimp only at hSw); go_simp; try with_reducible rfl); (try simp only [Act.put, List.setIfInBounds_toArray, List.set_cons_zero, List.set_cons_succ]))
  first | (refine WE_take 32 (v := undef) rfl (by kernel_rfl) (fun _ _ _ h => h) (Or.inr ⟨by rfl, rfl⟩) (by assumption) ?_; (try simp only [Act.put, List.setIfInBounds_toArray, List.set_cons_zero, List.set_cons_succ])) | (refine WE_take 32 (v := ?_) rfl (by kernel_rfl) (fun _ _ _ h => h) (Or.inl ⟨by rfl, ?_⟩) (by assumption) ?_; rotate_left; (· intro w9 hSw; (try dsimp only at hSw); go_simp; try with_reducible rfl); (try simp only [Act.put, List.setIfInBounds_toArray, List.set_cons_zero, List.set_cons_succ]))
  first | (refine WE_take 33 (v := undef) rfl (by kernel_rfl) (fun _ _ _ h => h) (Or.inr ⟨by rfl, rfl⟩) (by assumption) ?_; (try simp only [Act.put, List.setIfInBounds_toArray, List.set_cons_zero, List.set_cons_succ])) | (refine WE_take 33 (v := ?_) rfl (by kernel_rfl) (fun _ _ _ h => h) (Or.inl ⟨by rfl, ?_⟩) (by assumption) ?_; rotate_left; (· intro w9 hSw; (try dsimp only at hSw); go_simp; try with_reducible rfl); (try simp only [Act.put, List.setIfInBounds_toArray, List.set_cons_zero, List.set_cons_succ]))
  first | (refine WE_take 34 (v := undef) rfl (by kernel_rfl) (fun _ _ _ h => h) (Or.inr ⟨by rfl, rfl⟩) (by assumption) ?_; (try simp only [Act.put, List.setIfInBounds_toArray, List.set_cons_zero, List.set_cons_succ])) | (refine WE_take 34 (v := ?_) rfl (by kernel_rfl) (fun _ _ _ h => h) (Or.inl ⟨by rfl, ?_⟩) (by assumption) ?_; rotate_left; (· intro w9 hSw; (try dsimp only at hSw); go_simp; try with_reducible rfl); (try simp only [Act.put, List.setIfInBounds_toArray, List.set_cons_zero, List.set_cons_succ]))
  first | (refine WE_take 35 (v := undef) rfl (by kernel_rfl) (fun _ _ _ h => h) (Or.inr ⟨by rfl, rfl⟩) (by assumption) ?_; (try simp only [Act.put, List.setIfInBounds_toArray, List.set_cons_zero, List.set_cons_succ])) | (refine WE_take 35 (v := ?_) rfl (by kernel_rfl) (fun _ _ _ h => h) (Or.inl ⟨by rfl, ?_⟩) (by assumption) ?_; rotate_left; (· intro w9 hSw; (try dsimp only at hSw); go_simp; try with_reducible rfl); (try simp only [Act.put, List.setIfInBounds_toArray, List.set_cons_zero, List.set_cons_succ]))
  refine WE_step 36 rfl (by kernel_rfl) (fun K hK => ?_)
  go_simp
  (first | (go_at_call 14; with_reducible refine (psame_eq E E' ne ce ce' ux _ (HE1.out.later (keptTrans hkr hHeld.1).toBelow) (HE2.out.later (keptTrans hkr hHeld.1).toBelow) hne).mono ?_; rintro e w5 ⟨rfl, hb5⟩) | (go_at_call 14; with_reducible refine (psame_eq T T' nt ct ct' uy _ (HT1.out.later (keptTrans hkr hHeld.1).toBelow) (HT2.out.later (keptTrans hkr hHeld.1).toBelow) hnt).mono ?_; rintro e w6 ⟨rfl, hb6⟩))
  (try go_wp2_with fail)
  refine hK.out _ _ ?_ (fun hHeld => ?_)
  · (repeat' first | (with_reducible assumption) | (with_reducible exact SX0.init _) | (with_reducible exact SX0.refl _) | (with_reducible refine SX0.alloc ?_ _) | (with_reducible refine SX0.call ?_ (by assumption)) | (with_reducible refine SX0.set ?_ _ _ _ ?_) | (with_reducible refine SX0.drew ?_) | (simp; done) | omega | (simp; omega))
  clear hK K
  try simp only [Act.put, List.setIfInBounds_toArray, List.set_cons_zero, List.set_cons_succ]
  first | (refine WE_take 37 (v := undef) rfl (by kernel_rfl) (fun _ _ _ h => h) (Or.inr ⟨by rfl, rfl⟩) (by assumption) ?_; (try simp only [Act.put, List.setIfInBounds_toArray, List.set_cons_zero, List.set_cons_succ])) | (refine WE_take 37 (v := ?_) rfl (by kernel_rfl) (fun _ _ _ h => h) (Or.inl ⟨by rfl, ?_⟩) (by assumption) ?_; rotate_left; (· intro w9 hSw; (try dsimp only at hSw); go_simp; try with_reducible rfl); (try simp only [Act.put, List.setIfInBounds_toArray, List.set_cons_zero, List.set_cons_succ]))
  refine WE_last rfl (by kernel_rfl) (fun K hK => ?_)
  go_simp
  refine hK.out _ _ ?_
  clear hK K
  -- MARK2
  have hk6 : Kept [] wr w6 := hHeld.1
  go_wp2_with fail
  exact ⟨⟨i + 1, by omega, by go_num, keptTrans hkr hk6⟩, by simp [intOf]; omega⟩
end Go.Proofs.YtmbihjlflcjlnaaGreat
