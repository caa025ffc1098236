/- The contract of the reference's Paths; equal lists of pairs; the walk of the law IfdsPaths. -/
import Derived.Test.YtmbihjlflcjlnaaGreatNg
import Derived.Test.YtmbihjlflcjlnaaGreatNf
import Derived.Test.YtmbihjlflcjlnaaGreatZe
import Derived.Test.YtmbihjlflcjlnaaGreatZk
import Derived.Test.YtmbihjlflcjlnaaGreatKq
namespace Go.Proofs.YtmbihjlflcjlnaaGreat
open Go.RowKit Go.Df Go.Df.If
attribute [local go_sem ↓] Go.wp_at_zero Go.wp_at_succ

set_option maxRecDepth 100000 in
set_option maxHeartbeats 4000000 in
theorem rpaths_ok {p : Pb} (A1 A2 A3 A4 : Option Addr) (n1 c1 n2 c2 n3 c3 n4 c4 mN F : Nat) (w : World) (hG : Gr w A1 n1 A2 n2 p.ns p.es) (hP : PbW p n1 F mN A1 A2 A3 A4 n2 n3 n4 w) :
    Calls Tryz.prog 9 #[.agg #[.slice A1 n1 c1, .slice A2 n2 c2, .int .i64 mN, .int .i64 (F : Nat), .slice A3 n3 c3, .slice A4 n4 c4]] w fun e w' => ∃ A cA, e = .returned (.tuple #[.slice A n1 cA, .int .i64 0]) ∧ Flw w' A n1 ((List.range n1).map (pairL p)) ∧ Below w.heap.size w w' := by
  obtain ⟨i0, hinf0, hz0, hz1, hz2⟩ := info_parts prowg_info
  have HG := Lib.hid hG
  have HP := Lib.hid hP
  have hn4 := hP.h4
  have hN8 := hP.N8
  have hF8 := hP.F8
  have hF1 := hP.F1
  have HPE : Hid (pbErr ⟨p.ns, p.es, mN, F, p.fl, p.sd⟩ = 0) := Lib.hid (by
    have h9 : pbErr ⟨p.ns, p.es, p.mn, p.F, p.fl, p.sd⟩ = 0 := pb_ok (p := p) hP.ok.sup (by have := hP.ok.f1; have := hP.ok.f2; omega) hP.ok.len (fun x hx => by
      have h1 := hP.ok.fl x hx
      have h2 := fl_end (l := gf p.fl x) hP.ok.f1 hP.ok.f2 h1.1 h1.2.1
      rw [h2, if_neg]
      rintro (h3 | h3)
      · have := h1.2.2.1; omega
      · exact h3 h1.2.2.2) hP.ok.sd
    rw [← hP.hm, ← hP.hF]
    exact h9)
  clear hG hP
  go_enter Tryz.func9, Tryz.ntmps9
  go_upto_region 1 with fail
  refine wp_named (fun W => ∃ b0, w.heap.size = b0 ∧ Blk W b0 [.slice A1 n1 c1, .slice A2 n2 c2, .int .i64 mN, .int .i64 (F : Nat), .slice A3 n3 c3, .slice A4 n4 c4] ∧ Below w.heap.size w W) ⟨_, rfl, ?_, ?_⟩ ?_
  · exact Blk.new _ _ _ _ (by first | rfl | simp)
  · go_grown
  rintro W ⟨b0, e0, B0, hB⟩
  rw [e0]
  have G0 : w.heap.size ≤ b0 := by omega
  clear e0
  have ⟨L0, C0, F0⟩ := B0
  go_upto_region 2 with (go_at_call 16; refine (rifdsck_any A1 A2 A3 A4 n1 c1 n2 c2 n3 c3 n4 c4 mN F p.ns p.es p.fl p.sd _ (HG.out.nd.later hB) (HG.out.ed.later hB) (HP.out.fl.later hB) (HP.out.sd.later hB) (by omega) HG.out.wn HG.out.we).mono ?_; rw [HPE.out]; rintro e w1 ⟨rfl, hb1⟩)
  have hk1 : Kept [] W w1 := (Kept.refl _ _).call hb1
  have B01 := hk1.blk (by simp) B0
  have ⟨L01, C01, F01⟩ := B01
  have hB1 := hk1.below hB hB.size (by simp)
  clear C0 F0
  go_upto_region 5 with (go_at_call 27; refine (redges_any c1 c2 c3 c4 _ (HP.out.later hB1)).mono ?_; rintro e w2 ⟨X, bs, r, c, T, rfl, ht2, hpe2, hb2⟩; have T2 := Lib.hid ht2; have HT2 := Lib.hid hpe2; clear ht2 hpe2)
  refine wp_named (fun V => ∃ g, w2.heap.size = g ∧ Blk V g [.int .i64 (F : Nat), .slice (some ⟨r, 0, none⟩) n1 c] ∧ Kept [] w2 V) ⟨_, rfl, Blk.new _ _ _ _ rfl, (Kept.refl _ _).alloc _⟩ ?_
  rintro V ⟨g, eg, Bg, hkV⟩
  rw [eg]
  have hk1V : Kept [] w1 V := ((Kept.refl [] w1).call hb2).next hkV (by simp)
  have hwV : Below w.heap.size w V := hk1V.below hB1 hB1.size (by simp)
  have TV := Lib.hid (T2.out.kept0 hkV)
  have B0V := hk1V.blk (by simp) B01
  have HBg := Lib.hid Bg
  have ⟨LGV, CGV, FGV⟩ := Bg
  have ⟨L0V, C0V, F0V⟩ := B0V
  clear C01 F01 eg Bg
  go_wp2_with fail
  go_loopw [6, 7] (fun s6 s7 wr => ∃ (n : Nat) (A : Option Addr) (cA : Nat) (R : Nat → Option Addr × Nat × Nat), n ≤ n1 ∧ s7 = .int .i64 n ∧ s6 = .slice A n cA ∧ Kept [] V wr ∧ Hid (wr.ownsRow V.heap.size 40 1 (.slice A n cA) n ((List.range n).map fun x => Value.slice (R x).1 (R x).2.1 (R x).2.2)) ∧ Hid (RwP V.heap.size 76 R (fun x => tabQ F T x F) n wr)) (fun _ s7 _ => n1 - (intOf s7).toNat)
  case atStart => exact ⟨0, none, 0, fun _ => (none, 0, 0), Nat.zero_le _, rfl, rfl, Kept.refl _ _, Lib.hid (World.ownsRow_nil _ _ _ _), Lib.hid (fun x h => absurd h (by omega))⟩
  case round =>
  clear CGV FGV C0V F0V
  obtain ⟨n, A, cA, R, hn, rfl, rfl, hkr, OWN, RW⟩ := hrel
  have ⟨LGr, CGr, FGr⟩ := hkr.blk (by simp) HBg.out
  have ⟨L0r, C0r, F0r⟩ := hkr.blk (by simp) B0V
  by_cases hlt : n < n1
  case neg =>
    obtain rfl : n = n1 := by omega
    clear hlt
    go_wp2_with fail
    go_ret2
    refine ⟨A, cA, rfl, ?_, hkr.below hwV hwV.size (by simp)⟩
    have e2 : (List.range n).map (fun x => tabQ F T x F) = (List.range n).map (pairL p) := List.map_congr_left fun x _ => pairL_tab HP.out.ok HP.out.Fn HT2.out x
    rw [← e2]
    refine ⟨by simp, fun h0 => ?_⟩
    obtain ⟨q, cq, hv, hbq, hql, -, -, hcell, -⟩ := own_cellsT OWN.out h0
    injection hv with e1 _ e3
    refine ⟨q, 0, e1, hql, fun x hx => ?_⟩
    obtain ⟨h1, h2, -⟩ := RW.out x hx
    refine ⟨(R x).1, (R x).2.1, (R x).2.2, by rw [Nat.zero_add, hcell x (by omega)]; simp [hx], h2, ?_⟩
    have e9 : gf ((List.range n).map fun x => tabQ F T x F) x = tabQ F T x F := by simp [gf, hx]
    rw [e9]
    exact h1
  have hn9 : (n : Int) < (n1 : Int) := by omega
  have TR := Lib.hid (TV.out.kept0 hkr)
  have hsr := hkr.size
  go_wp2_with (first
    | (go_at_call 28; refine (rpairsat_any c n _ TR.out hN8 hF8 hlt).mono ?_; rintro e w6 ⟨A6, k6, c6, rfl, hk6, hp6, hf6, hb6⟩; have HP6 := Lib.hid hp6; have HF6 := Lib.hid hf6; have hkr6 := Lib.hid ((Kept.refl [] wr).call hb6); have OW6 := Lib.hid (own_keptT (X := []) OWN.out hkr6.out (by simp)); have RW6 := Lib.hid ((RW.out.kept hkr6.out (fun _ _ _ => by simp)).snoc (c := c6) (show Prs w6 A6 k6 ((fun x => tabQ F T x F) n) from HP6.out) hk6 (fun a ha => ⟨by have := (HF6.out a ha).1; omega, (HF6.out a ha).2⟩)); have HAP := Lib.hid (rowsP_snoc R n k6 c6 A6); have hs6 := hkr6.out.size; clear hp6 hf6)
    | (at_builtin; refine wpList_append_rd _ rfl _ _ 31 rfl V.heap.size 40 i0 (.slice none 0 0) 1 24 Tryz.underlying31 hinf0 hz0 hz1 hz2 rfl (by decide) (.slice A n cA) n _ rfl (own_keptT (X := []) OW6.out ((Kept.refl _ _).alloc _) (by simp)) (some ⟨w6.heap.size, 0, none⟩) 1 1 [.slice A6 k6 c6] rfl (Rd.new1 _ _ _ _ rfl) (fun h => by cases h) (by intro u hu; simp at hu; subst hu; rfl) (n + 1) rfl _ HAP.out (by unfold maxLen; omega) (by omega) (by simp; omega) ?_; intro A8 c8 w8 hown8 hk8 hat8; have HK8 := Lib.hid hk8; have HO8 := Lib.hid hown8; clear hown8 hk8 hat8))
  have hk68 : Kept (Value.slice A n cA).ownBlock.toList w6 w8 := ((Kept.refl _ w6).alloc _).next HK8.out (fun y hy => Or.inl hy)
  have hkV8 : Kept [] V w8 := (keptTrans hkr hkr6.out).next hk68 (fun y hy => Or.inr (own_ge OW6.out (by simpa using hy)))
  have RW8 := RW6.out.kept hk68 (fun b hb _ hm => by
    have h1 : (Value.slice A n cA).ownBlock = some b := by simpa using hm
    exact absurd rfl (hb.ne (own_tag OW6.out h1) (by decide)))
  exact ⟨⟨n + 1, A8, c8, _, by omega, by go_num, rfl, hkV8, HO8, Lib.hid RW8⟩, by simp [intOf]; omega⟩
end Go.Proofs.YtmbihjlflcjlnaaGreat
