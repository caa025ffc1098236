/- The contracts of vpath.Next and of small helpers. (Printed out of XWd, XWe, XVm.) -/
import Derived.Test.YtmbihjlflcjlnaaXk
import Derived.Test.YtmbihjlflcjlnaaOw
namespace Go.Proofs.Ytmbihjlflcjlnaa
open Go.RowKit Go.Df
attribute [local go_sem ↓] Go.wp_at_zero Go.wp_at_succ
set_option maxRecDepth 100000 in
set_option maxHeartbeats 1000000 in
theorem pout_any (A1 A2 : Option Addr) (n1 c1 n2 c2 : Nat) (mn x : Int) (es : List Sp.Ed) (w : World) (he : Eds w A2 n2 es) (hs : n2 ≤ 1000000) :
    Calls Try.prog 17 #[.agg #[.slice A1 n1 c1, .slice A2 n2 c2, .int .i64 mn], .int .i64 x] w fun e w' => ∃ A n c, e = .returned (.slice A n c) ∧ SIn w' A n c (Sp.outS es x n2) ∧ n ≤ n2 ∧ Below w.heap.size w w' := by
  obtain ⟨i0, hi, hz0, hz1, hz2⟩ := info_parts int_info
  have HE := Lib.hid he
  clear he
  go_enter Try.func17, Try.ntmps17
  go_upto_region 1 with fail
  refine wp_named (fun W => ∃ b0, w.heap.size = b0 ∧ Blk W b0 [.slice A1 n1 c1, .slice A2 n2 c2, .int .i64 mn] ∧ Below w.heap.size w W) ⟨_, rfl, ?_, ?_⟩ ?_
  · exact Blk.new _ _ _ _ (by first | rfl | simp)
  · go_grown
  rintro W ⟨b0, e0, B0, hB⟩
  rw [e0]
  have G0 : w.heap.size ≤ b0 := by omega
  clear e0
  have ⟨L0, C0, F0⟩ := B0
  go_wp2_with fail
  go_loopw [5, 11] (fun s5 s6 wr => ∃ (j N : Nat) (A : Option Addr) (c : Nat), j ≤ n2 ∧ s5 = .slice A N c ∧ s6 = .int .i64 j ∧ Kept [] W wr ∧ Hid (wr.ownsRow W.heap.size 3 1 (.slice A N c) N ((Sp.outS es x j).map (Value.int .i64)))) (fun _ i _ => n2 - (intOf i).toNat)
  case atStart => exact ⟨0, 0, none, 0, Nat.zero_le _, rfl, rfl, Kept.refl _ _, Lib.hid (World.ownsRow_nil _ _ _ _)⟩
  case round =>
    obtain ⟨j, N, A, c, hj, rfl, rfl, hkr, own⟩ := hrel
    have HN : Hid ((Sp.outS es x j).length = N) := by show _ = _; have := own.out.1; simpa using this
    have hNj : N ≤ j := by have := HN.out; have := Sp.outS_len es x j; omega
    have hBr := hkr.below hB hB.size (by simp)
    have ⟨LR, CR, FR⟩ := hkr.blk (by simp) B0
    have hsz := hkr.size
    clear C0 F0
    by_cases hlt : j < n2
    · obtain ⟨b, o, rfl, hl, hc⟩ := (HE.out.later hBr).2 (by omega)
      obtain ⟨h1, h2, h3, h4⟩ := hc j hlt
      clear hc
      obtain ⟨ea, eb, ek, ec, en⟩ : ∃ ea eb ek ec, ge es j = ⟨ea, eb, ek, ec⟩ := ⟨_, _, _, _, rfl⟩
      rw [en] at h1 h2 h3 h4
      have HEe := Lib.hid en
      clear en
      go_upto_region 5 with fail
      refine wp_named (fun V => ∃ g, wr.heap.size = g ∧ Blk V g [.int .i64 ea, .int .i64 eb, .int .i64 ek, .int .i64 ec] ∧ Kept [] wr V) ⟨_, rfl, Blk.new _ _ _ _ rfl, (Kept.refl _ _).alloc _⟩ ?_
      rintro V ⟨g, eg, Bg, hkV⟩
      rw [eg]
      have ⟨LG, CG, FG⟩ := Bg
      have hkW : Kept [] W V := keptTrans hkr hkV
      have ownV := Lib.hid (own_keptX own.out hkV (by simp))
      have hsV := hkW.size
      clear CR FR h1 h2 h3 h4 eg
      by_cases e1 : ea = x
      · have e1' : (ea == x) = true := by simpa using e1
        have HAP : Hid ((Sp.outS es x j).map (Value.int .i64) ++ [.int .i64 (j : Int)] = (Sp.outS es x (j + 1)).map (Value.int .i64)) := by
          show _ = _
          rw [Sp.outS, HEe.out, if_pos e1, List.map_append]
          rfl
        clear e1
        go_wp2_with (first | (at_builtin; refine wpList_append_rd _ rfl _ _ 26 rfl W.heap.size 3 i0 (.int .i64 0) 1 8 Try.underlying26 hi hz0 hz1 hz2 rfl (by decide) (.slice A N c) N ((Sp.outS es x j).map (Value.int .i64)) rfl (own_alloc ownV.out _) (some ⟨V.heap.size, 0, none⟩) 1 1 [.int .i64 (j : Int)] rfl (Rd.new1 _ _ _ _ rfl) (fun h => by cases h) (by intro u hu; simp at hu; subst hu; rfl) (N + 1) rfl ((Sp.outS es x (j + 1)).map (Value.int .i64)) HAP.out (by unfold maxLen; omega) (by omega) (by simp; omega) ?_; intro A9 c9 w4 hown4 hk4 hat4; have HX : Hid (∀ y ∈ (Value.slice A N c).ownBlock.toList, W.heap.size ≤ y) := (fun y hy => own_ge ownV.out (by simpa using hy)); have hk5 := Lib.hid ((hkW.alloc (.cells #[.int .i64 (j : Int)] 3)).next hk4 (fun y hy => Or.inr (HX.out y hy))); have HO4 := Lib.hid hown4; clear hown4 hk4 hat4))
        exact ⟨⟨j + 1, N + 1, A9, c9, by omega, rfl, by go_num, hk5.out, HO4⟩, by simp [intOf]; omega⟩
      · have e1' : (ea == x) = false := by simpa using e1
        have HAP : Hid (Sp.outS es x (j + 1) = Sp.outS es x j) := by
          show _ = _
          rw [Sp.outS, HEe.out, if_neg e1]
        clear e1
        go_wp2_with fail
        exact ⟨⟨j + 1, N, A, c, by omega, rfl, by go_num, hkW, Lib.hid (by rw [HAP.out]; exact ownV.out)⟩, by simp [intOf]; omega⟩
    · obtain rfl : j = n2 := by omega
      obtain ⟨A', c', hv', hin, -⟩ := SIn.of_own own.out
      injection hv' with e1 e2 e3
      subst e1
      subst e3
      have HIN := Lib.hid hin
      clear hin hlt
      go_wp2_with fail
      go_ret
      exact ⟨A, N, c, rfl, HIN.out, hNj, hBr⟩

set_option maxRecDepth 100000 in
set_option maxHeartbeats 2000000 in
theorem pnext_any (A1 A2 A3 : Option Addr) (n1 c1 n2 c2 n3 c3 : Nat) (mn fr : Int) (ns : List Sp.Nd) (es : List Sp.Ed) (path : List Int) (w : World) (hg : Gr w A1 n1 A2 n2 ns es) (hp : Ints w A3 n3 path) (hs : n2 ≤ 1000000) (er : Int) (nx : List Int) (hf : Sp.nxtS ns es mn fr path = (er, nx)) :
    Calls Try.prog 7 #[.agg #[.slice A1 n1 c1, .slice A2 n2 c2, .int .i64 mn], .int .i64 fr, .slice A3 n3 c3] w fun e w' => ∃ A n c, e = .returned (.tuple #[.slice A n c, .int .i64 er]) ∧ Ints w' A n nx ∧ n ≤ 1000000 ∧ Below w.heap.size w w' := by
  obtain ⟨i0, hi, hz0, hz1, hz2⟩ := info_parts int_info
  have HG := Lib.hid hg
  have HP := Lib.hid hp
  have HLp := Lib.hid hp.1
  have HFo := Lib.hid hf
  clear hg hp hf
  go_enter Try.func7, Try.ntmps7
  go_upto_region 1 with fail
  refine wp_named (fun W => ∃ b0, w.heap.size = b0 ∧ Blk W b0 [.slice A1 n1 c1, .slice A2 n2 c2, .int .i64 mn] ∧ Below w.heap.size w W) ⟨_, rfl, ?_, ?_⟩ ?_
  · exact Blk.new _ _ _ _ (by first | rfl | simp)
  · go_grown
  rintro W ⟨b0, e0, B0, hB⟩
  rw [e0]
  have G0 : w.heap.size ≤ b0 := by omega
  clear e0
  have ⟨L0, C0, F0⟩ := B0
  have HL := Lib.hid HG.out.ed.1
  go_wp2_with fail
  obtain ⟨⟨fe, a, cs⟩, hfl⟩ : ∃ x, Sp.followS ns es mn fr path = x := ⟨_, rfl⟩
  refine (follow_any _ _ _ _ _ _ _ _ _ _ _ ns es path _ (HG.out.later hB).nd (HG.out.later hB).ed HG.out.wn HG.out.we (HP.out.later hB)).mono ?_
  rw [hfl]
  rintro e w1 ⟨P, rfl, pd, hb1⟩
  have HC : Hid ((er, nx) = if fe ≠ 0 then (fe, []) else if n3 = 4096 then (3, []) else (0, Sp.nextS es a cs)) := by
    show _ = _
    rw [← HFo.out]
    unfold Sp.nxtS
    rw [hfl, HLp.out]
  have hk1 : Kept [] W w1 := (Kept.refl _ _).call hb1
  have hB1 := hk1.below hB hB.size (by simp)
  have PD := Lib.hid pd
  clear pd hfl HFo
  go_upto_region 2 with fail
  refine wp_named (fun U => ∃ g, w1.heap.size = g ∧ Blk U g [.slice none 0 0, .int .i64 a, .pointer P] ∧ Kept [] w1 U) ⟨_, rfl, Blk.new _ _ _ _ rfl, (Kept.refl _ _).alloc _⟩ ?_
  rintro U ⟨g, eg, Bg, hkU⟩
  rw [eg]
  have ⟨LG, CG, FG⟩ := Bg
  have hkWU : Kept [] W U := keptTrans hk1 hkU
  have hBU := hkWU.below hB hB.size (by simp)
  have ⟨LV, CV, FV⟩ := hkWU.blk (by simp) B0
  have PDU := Lib.hid (Pend.kept hkU cs PD.out)
  clear C0 F0 eg
  by_cases h0 : fe = 0
  case neg =>
    have h0' : (fe != 0) = true := by simpa using h0
    have HS := Lib.hid (HC.out.trans (if_pos h0))
    clear h0
    go_wp2_with fail
    go_ret2
    obtain ⟨rfl, rfl⟩ : er = fe ∧ nx = [] := by have := HS.out; simpa using this
    exact ⟨none, 0, 0, rfl, Ints.empty _ _, by omega, hBU⟩
  have h0' : (fe != 0) = false := by simpa using h0
  by_cases h4 : n3 = 4096
  · have h4' : ((n3 : Int) == 4096) = true := by simp; omega
    have h4'' : (n3 == 4096) = true := by simp; omega
    have HS := Lib.hid (HC.out.trans ((if_neg (not_not_intro h0)).trans (if_pos h4)))
    clear h0
    have H4 := Lib.hid h4
    clear h4
    go_wp2_with fail
    go_ret2
    obtain ⟨rfl, rfl⟩ : er = 3 ∧ nx = [] := by have := HS.out; simpa using this
    exact ⟨none, 0, 0, rfl, Ints.empty _ _, by omega, hBU⟩
  have h4' : ((n3 : Int) == 4096) = false := by simp; omega
  have h4'' : (n3 == 4096) = false := by simp; omega
  have HS := Lib.hid (HC.out.trans ((if_neg (not_not_intro h0)).trans (if_neg h4)))
  clear h0 h4
  go_wp2_with fail
  refine (pout_any _ _ _ _ _ _ _ a es _ (HG.out.later hBU).ed hs).mono ?_
  rintro e V ⟨B2, q, d2, rfl, si, hq, hb2⟩
  have hkUV : Kept [] U V := (Kept.refl _ _).call hb2
  have hkV : Kept [] W V := keptTrans hkWU hkUV
  have hBV := hkV.below hB hB.size (by simp)
  have BgV := hkUV.blk (by simp) Bg
  have PDV := Lib.hid (Pend.kept hkUV cs PDU.out)
  obtain ⟨l, hl⟩ : ∃ l, Sp.outS es a n2 = l := ⟨_, rfl⟩
  rw [hl] at si
  have HLl : Hid (l.length = q) := si.1.1
  have HNX : Hid (Sp.nextS es a cs = Sp.flt es a cs l q) := by
    show _ = _
    unfold Sp.nextS
    rw [HL.out, hl, HLl.out]
  have SI := Lib.hid si
  clear CG FG CV FV si hl
  go_wp2_with fail
  go_loopw [10, 33] (fun s5 s7 wr => ∃ (j N : Nat) (A : Option Addr) (c : Nat), j ≤ q ∧ s5 = .slice A N c ∧ s7 = .int .i64 j ∧ Kept [] V wr ∧ Hid (wr.ownsRow V.heap.size 3 1 (.slice A N c) N ((Sp.flt es a cs l j).map (Value.int .i64)))) (fun _ i _ => q - (intOf i).toNat)
  case atStart => exact ⟨0, 0, none, 0, Nat.zero_le _, rfl, rfl, Kept.refl _ _, Lib.hid (World.ownsRow_nil _ _ _ _)⟩
  case round =>
    obtain ⟨j, N, A, c, hj, rfl, rfl, hkr, own⟩ := hrel
    have HN : Hid ((Sp.flt es a cs l j).length = N) := by show _ = _; have := own.out.1; simpa using this
    have hNj : N ≤ j := by have := HN.out; have := Sp.flt_len es a cs l j; omega
    have hBr := hkr.below hBV hBV.size (by simp)
    have hkWr : Kept [] W wr := keptTrans hkV hkr
    have BR0 := hkWr.blk (by simp) B0
    have ⟨LR0, CR0, FR0⟩ := BR0
    have BR1 := hkr.blk (by simp) BgV
    have ⟨LR1, CR1, FR1⟩ := BR1
    have hsz := hkr.size
    have PDR := Lib.hid (Pend.kept hkr cs PDV.out)
    by_cases hlt : j < q
    · obtain ⟨pb, po, rfl, hpl, hpc⟩ := (SI.out.1.kept hkr).2 (by omega)
      have pc := hpc j hlt
      clear hpc
      obtain ⟨k, hk⟩ : ∃ k, gi l j = k := ⟨_, rfl⟩
      rw [hk] at pc
      have HK := Lib.hid hk
      clear hk
      obtain ⟨⟨sr, a', cs'⟩, hst⟩ : ∃ x, Sp.stepS es a cs k = x := ⟨_, rfl⟩
      have HST := Lib.hid hst
      clear hst
      go_wp2_with fail
      refine (step_any _ _ P _ _ _ _ _ a k _ es cs _ (HG.out.later hBr).ed hs PDR.out).mono ?_
      rw [HST.out]
      rintro e w3 ⟨P3, rfl, -, hb3⟩
      have hk3 : Kept [] wr w3 := (Kept.refl _ _).call hb3
      clear CR0 FR0 CR1 FR1 pc
      go_upto_region 11 with fail
      refine wp_named (fun Y => Kept [] w3 Y) ((Kept.refl _ _).alloc _) ?_
      intro wc hkY
      have hkc : Kept [] wr wc := keptTrans hk3 hkY
      have hkVc : Kept [] V wc := keptTrans hkr hkc
      have hBc := hkVc.below hBV hBV.size (by simp)
      have ownC := Lib.hid (own_keptX own.out hkc (by simp))
      have hszc := hkVc.size
      clear own
      by_cases he0 : sr = 0
      · have he' : (sr == 0) = true := by simpa using he0
        have HAP : Hid ((Sp.flt es a cs l j).map (Value.int .i64) ++ [.int .i64 k] = (Sp.flt es a cs l (j + 1)).map (Value.int .i64)) := by
          show _ = _
          rw [Sp.flt, HK.out, HST.out, if_pos he0, List.map_append]
          rfl
        clear he0
        go_wp2_with (first | (at_builtin; refine wpList_append_rd _ rfl _ _ 26 rfl V.heap.size 3 i0 (.int .i64 0) 1 8 Try.underlying26 hi hz0 hz1 hz2 rfl (by decide) (.slice A N c) N ((Sp.flt es a cs l j).map (Value.int .i64)) rfl (own_alloc ownC.out _) (some ⟨wc.heap.size, 0, none⟩) 1 1 [.int .i64 k] rfl (Rd.new1 _ _ _ _ rfl) (fun h => by cases h) (by intro u hu; simp at hu; subst hu; rfl) (N + 1) rfl ((Sp.flt es a cs l (j + 1)).map (Value.int .i64)) HAP.out (by unfold maxLen; omega) (by omega) (by simp; omega) ?_; intro A9 c9 w4 hown4 hk4 hat4; have HX : Hid (∀ y ∈ (Value.slice A N c).ownBlock.toList, V.heap.size ≤ y) := (fun y hy => own_ge ownC.out (by simpa using hy)); have hk5 := Lib.hid ((hkVc.alloc (.cells #[.int .i64 k] 3)).next hk4 (fun y hy => Or.inr (HX.out y hy))); have HO4 := Lib.hid hown4; clear hown4 hk4 hat4))
        exact ⟨⟨j + 1, N + 1, A9, c9, by omega, rfl, by go_num, hk5.out, HO4⟩, by simp [intOf]; omega⟩
      · have he' : (sr == 0) = false := by simpa using he0
        have HAP : Hid (Sp.flt es a cs l (j + 1) = Sp.flt es a cs l j) := by
          show _ = _
          rw [Sp.flt, HK.out, HST.out, if_neg he0]
        clear he0
        go_wp2_with fail
        exact ⟨⟨j + 1, N, A, c, by omega, rfl, by go_num, hkVc, Lib.hid (by rw [HAP.out]; exact ownC.out)⟩, by simp [intOf]; omega⟩
    · obtain rfl : j = q := by omega
      obtain ⟨A', c', hv', hin, -⟩ := SIn.of_own own.out
      injection hv' with e1 e2 e3
      subst e1
      subst e3
      have HIN := Lib.hid hin
      clear hin hlt
      go_wp2_with fail
      go_ret2
      obtain ⟨rfl, rfl⟩ : er = 0 ∧ nx = Sp.nextS es a cs := by have := HS.out; simpa using this
      have HI : Ints wr A N (Sp.nextS es a cs) := by rw [HNX.out]; exact HIN.out.1
      first | exact ⟨A, N, c, rfl, HI, by omega, hBr⟩ | exact ⟨A, N, ⟨c, rfl⟩, HI, by omega, hBr⟩
theorem pcheck_is (A1 A2 A3 : Option Addr) (n1 c1 n2 c2 n3 c3 : Nat) (mn fr : Int) (ns : List Sp.Nd) (es : List Sp.Ed) (path : List Int) (w : World) (hg : Gr w A1 n1 A2 n2 ns es) (hp : Ints w A3 n3 path) (er : Int) (h : (Sp.followS ns es mn fr path).1 = er) :
    Calls Try.prog 8 #[.agg #[.slice A1 n1 c1, .slice A2 n2 c2, .int .i64 mn], .int .i64 fr, .slice A3 n3 c3] w fun e w' => e = .returned (.int .i64 er) ∧ Below w.heap.size w w' := by
  subst h
  exact pcheck_any A1 A2 A3 n1 c1 n2 c2 n3 c3 mn fr ns es path w hg hp
theorem equal_is (A B : Option Addr) (n c m d : Nat) (xs : List Int) (w : World) (hx : Ints w A n xs) (hy : Ints w B m xs) (hn : n ≤ 1000000) :
    Calls Try.prog 10 #[.slice A n c, .slice B m d] w fun e w' => e = .returned (.bool true) ∧ Below w.heap.size w w' := by
  have := equal_any A B n c m d xs xs w hx hy hn
  rw [show decide (xs = xs) = true by simp] at this
  exact this

end Go.Proofs.Ytmbihjlflcjlnaa
