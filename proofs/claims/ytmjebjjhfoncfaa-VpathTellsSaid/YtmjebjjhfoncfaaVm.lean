/- The walk of VpathMatch. -/
import Derived.Test.YtmjebjjhfoncfaaVl
namespace Go.Df
open Go.RowKit
theorem Ints.take {w : World} {A : Option Addr} {n k : Nat} {xs : List Int} (h : Ints w A n xs) (hk : k ≤ n) : Ints w A k (xs.take k) := by
  refine ⟨by rw [List.length_take, h.1]; omega, fun h0 => ?_⟩
  obtain ⟨b, o, e, hl, hc⟩ := h.2 (by omega)
  refine ⟨b, o, e, hl, fun i hi => ?_⟩
  rw [hc i (by omega), gi_lt (by rw [h.1]; omega), gi_lt (by rw [List.length_take, h.1]; omega), List.getElem_take]
end Go.Df
namespace Go.Proofs.Ytmjebjjhfoncfaa
open Go.RowKit Go.Df
attribute [local go_sem ↓] Go.wp_at_zero Go.wp_at_succ

theorem pcheck_is (A1 A2 A3 : Option Addr) (n1 c1 n2 c2 n3 c3 : Nat) (mn fr : Int) (ns : List Sp.Nd) (es : List Sp.Ed) (path : List Int) (w : World) (hg : Gr w A1 n1 A2 n2 ns es) (hp : Ints w A3 n3 path) (er : Int) (h : (Sp.followS ns es mn fr path).1 = er) :
    Calls Try.prog 11 #[.agg #[.slice A1 n1 c1, .slice A2 n2 c2, .int .i64 mn], .int .i64 fr, .slice A3 n3 c3] w fun e w' => e = .returned (.int .i64 er) ∧ Below w.heap.size w w' := by
  subst h
  exact pcheck_any A1 A2 A3 n1 c1 n2 c2 n3 c3 mn fr ns es path w hg hp
theorem bal_is (A1 A2 A3 : Option Addr) (n1 c1 n2 c2 n3 c3 : Nat) (mn fr : Int) (ns : List Sp.Nd) (es : List Sp.Ed) (path : List Int) (w : World) (hg : Gr w A1 n1 A2 n2 ns es) (hp : Ints w A3 n3 path) (v : Bool) (h : Sp.balS ns es mn fr path = v) :
    Calls Try.prog 13 #[.agg #[.slice A1 n1 c1, .slice A2 n2 c2, .int .i64 mn], .int .i64 fr, .slice A3 n3 c3] w fun e w' => e = .returned (.bool v) ∧ Below w.heap.size w w' := by
  subst h
  exact bal_any A1 A2 A3 n1 c1 n2 c2 n3 c3 mn fr ns es path w hg hp
theorem stack_is (A1 A2 A3 : Option Addr) (n1 c1 n2 c2 n3 c3 : Nat) (mn fr : Int) (ns : List Sp.Nd) (es : List Sp.Ed) (path : List Int) (w : World) (hg : Gr w A1 n1 A2 n2 ns es) (hp : Ints w A3 n3 path) (er a : Int) (cs : List Int) (h : Sp.followS ns es mn fr path = (er, a, cs)) (hl : cs.length ≤ 1000000) :
    Calls Try.prog 14 #[.agg #[.slice A1 n1 c1, .slice A2 n2 c2, .int .i64 mn], .int .i64 fr, .slice A3 n3 c3] w fun e w' => ∃ A n c, e = .returned (.tuple #[.slice A n c, .int .i64 er]) ∧ Ints w' A n cs.reverse ∧ (A = none → n = 0) ∧ Below w.heap.size w w' := by
  have := stack_any A1 A2 A3 n1 c1 n2 c2 n3 c3 mn fr ns es path w hg hp (by rw [h]; exact hl)
  rw [h] at this
  exact this
theorem end_is (A1 A2 A3 : Option Addr) (n1 c1 n2 c2 n3 c3 : Nat) (mn fr : Int) (ns : List Sp.Nd) (es : List Sp.Ed) (path : List Int) (w : World) (hg : Gr w A1 n1 A2 n2 ns es) (hp : Ints w A3 n3 path) (er a : Int) (cs : List Int) (h : Sp.followS ns es mn fr path = (er, a, cs)) :
    Calls Try.prog 15 #[.agg #[.slice A1 n1 c1, .slice A2 n2 c2, .int .i64 mn], .int .i64 fr, .slice A3 n3 c3] w fun e w' => e = .returned (.tuple #[.int .i64 a, .int .i64 er]) ∧ Below w.heap.size w w' := by
  have := end_any A1 A2 A3 n1 c1 n2 c2 n3 c3 mn fr ns es path w hg hp
  rw [h] at this
  exact this
theorem equal_is (A B : Option Addr) (n c m d : Nat) (xs : List Int) (w : World) (hx : Ints w A n xs) (hy : Ints w B m xs) (hn : n ≤ 1000000) :
    Calls Try.prog 16 #[.slice A n c, .slice B m d] w fun e w' => e = .returned (.bool true) ∧ Below w.heap.size w w' := by
  have := equal_any A B n c m d xs xs w hx hy hn
  rw [show decide (xs = xs) = true by simp] at this
  exact this

set_option maxRecDepth 100000 in
set_option maxHeartbeats 8000000 in
theorem vmatch_any (A1 A2 A3 : Option Addr) (n1 c1 n2 c2 n3 c3 : Nat) (mn fr : Int) (ns : List Sp.Nd) (es : List Sp.Ed) (path : List Int) (w : World) (hg : Gr w A1 n1 A2 n2 ns es) (hp : Ints w A3 n3 path) (h3 : n3 ≤ c3) :
    Calls Try.prog 3 #[.agg #[.slice A1 n1 c1, .slice A2 n2 c2, .int .i64 mn], .int .i64 fr, .slice A3 n3 c3] w fun e w' => e = .returned (.bool true) ∧ Below w.heap.size w w' := by
  obtain ⟨i0, hi, hz0, hz1, hz2⟩ := info_parts int_info
  have mixed : Try.prog.follows Departure.mixedOrders = true := by kernel_rfl
  have HG := Lib.hid hg
  have HP := Lib.hid hp
  have HL1 := Lib.hid hg.nd.1
  have HL2 := Lib.hid hg.ed.1
  have HL3 := Lib.hid hp.1
  clear hg hp
  go_enter Try.func3, Try.ntmps3
  go_upto_region 1 with fail
  refine wp_named (fun W => ∃ b0, w.heap.size = b0 ∧ Blk W b0 [.slice A1 n1 c1, .slice A2 n2 c2, .int .i64 mn] ∧ Below w.heap.size w W) ⟨_, rfl, ?_, ?_⟩ ?_
  · exact Blk.new _ _ _ _ (by first | rfl | simp)
  · go_grown
  rintro W ⟨b0, e0, B0, hB⟩
  rw [e0]
  have G0 : w.heap.size ≤ b0 := by omega
  clear e0
  have ⟨L0, C0, F0⟩ := B0
  obtain ⟨v, hv⟩ : ∃ v, v = (decide (n1 ≤ 40) && decide (n2 ≤ 120)) := ⟨_, rfl⟩
  have HV := Lib.hid hv
  clear hv
  cases v with
  | false =>
    go_wp2_with (first
      | (go_at_call 10; refine (small_any _ _ _ _ _ _ _ false HV.out _).mono ?_; rintro e w1 ⟨rfl, hb1⟩)
      | (go_at_call 12; refine (awake_any _).mono ?_; rintro e w2 ⟨rfl, hb2⟩))
    go_ret
    exact ⟨rfl, (((Kept.refl [] W).call hb1).call hb2).below hB hB.size (by simp)⟩
  | true =>
  by_cases h60 : 60 < n3
  · have d60 : decide ((60 : Int) < (n3 : Int)) = true := by simp; omega
    go_wp2_with (first
      | (go_at_call 10; refine (small_any _ _ _ _ _ _ _ true HV.out _).mono ?_; rintro e w1 ⟨rfl, hb1⟩)
      | (go_at_call 12; refine (awake_any _).mono ?_; rintro e w2 ⟨rfl, hb2⟩))
    go_ret
    exact ⟨rfl, (((Kept.refl [] W).call hb1).call hb2).below hB hB.size (by simp)⟩
  have d60 : decide ((60 : Int) < (n3 : Int)) = false := by simp; omega
  obtain ⟨er, her⟩ : ∃ er, (Sp.followS ns es mn fr path).1 = er := ⟨_, rfl⟩
  have HER := Lib.hid her
  by_cases he0 : er = 0
  case neg =>
    have he' : (er != 0) = true := by simpa using he0
    clear he0 her
    go_wp2_with (first
      | (go_at_call 10; refine (small_any _ _ _ _ _ _ _ true HV.out _).mono ?_; rintro e w1 ⟨rfl, hb1⟩; have hk1 : Kept [] W w1 := (Kept.refl _ _).call hb1; have ⟨L1, C1, F1⟩ := hk1.blk (by simp) B0; clear C0 F0)
      | (go_at_call 11; refine (pcheck_any _ _ _ _ _ _ _ _ _ mn fr ns es path _ (HG.out.later (hk1.below hB hB.size (by simp))) (HP.out.later (hk1.below hB hB.size (by simp)))).mono ?_; rintro e w2 ⟨rfl, hb2⟩; rw [HER.out])
      | (go_at_call 12; refine (awake_any _).mono ?_; rintro e w3 ⟨rfl, hb3⟩))
    go_ret
    exact ⟨rfl, ((hk1.call hb2).call hb3).below hB hB.size (by simp)⟩
  have hsm : Hid (n1 ≤ 40 ∧ n2 ≤ 120) := by
    have := HV.out
    simp only [Bool.true_eq, Bool.and_eq_true, decide_eq_true_eq] at this
    exact this
  obtain ⟨sok, cok, -, inv0⟩ := Sp.vinv_start (her.trans he0)
  have SOK := Lib.hid sok
  have COK := Lib.hid cok
  have INV0 := Lib.hid inv0
  have hfr := (Sp.chk_ok cok).2
  rw [HL1.out] at hfr
  have HE0 := Lib.hid (her.trans he0)
  clear her inv0 sok cok HER he0
  go_upto_region 3 with (first
      | (go_at_call 10; refine (small_any _ _ _ _ _ _ _ true HV.out _).mono ?_; rintro e w1 ⟨rfl, hb1⟩; have hk1 : Kept [] W w1 := (Kept.refl _ _).call hb1; have ⟨L1, C1, F1⟩ := hk1.blk (by simp) B0; clear C0 F0)
      | (go_at_call 11; refine (pcheck_any _ _ _ _ _ _ _ _ _ mn fr ns es path _ (HG.out.later (hk1.below hB hB.size (by simp))) (HP.out.later (hk1.below hB hB.size (by simp)))).mono ?_; rintro e w2 ⟨rfl, hb2⟩; rw [HE0.out]))
  have hk2 : Kept [] W w2 := hk1.call hb2
  have hB2 := hk2.below hB hB.size (by simp)
  clear C1 F1 L1 hk1 hb1 hb2
  obtain ⟨frn, rfl⟩ := Int.eq_ofNat_of_zero_le hfr.1
  go_wp2_with fail
  go_loopw [7, 8, 9] (fun s7 s8 s9 wr => ∃ (j : Nat) (a : Int) (cs : List Int) (A : Option Addr) (N c : Nat), s9 = .int .i64 j ∧ j ≤ n3 ∧ s7 = .int .i64 a ∧ s8 = .slice A N c ∧ Kept [] W wr ∧ Hid (wr.ownsRow W.heap.size 3 1 (.slice A N c) N (cs.reverse.map (Value.int .i64))) ∧ Hid (Sp.VInv ns es frn path j a cs)) (fun _ _ s9 _ => n3 - (intOf s9).toNat)
  case atStart => exact ⟨0, frn, [], none, 0, 0, rfl, Nat.zero_le _, rfl, rfl, hk2, Lib.hid (World.ownsRow_nil _ _ _ _), INV0⟩
  case round =>
    obtain ⟨j, a, cs, A, N, c, rfl, hj, rfl, rfl, hkr, own, inv⟩ := hrel
    have HN : Hid (cs.length = N) := by show _ = _; have := own.out.1; simpa using this
    have hNj : N ≤ 60 := by have := inv.out.len; have := HN.out; omega
    have hBr := hkr.below hB hB.size (by simp)
    have ⟨LR, CR, FR⟩ := hkr.blk (by simp) B0
    have BR := hkr.blk (by simp) B0
    by_cases hlt : j < n3
    · obtain ⟨x, hx, hxl, hea, hebr, hcase⟩ := Sp.vinv_step SOK.out inv.out (by rw [HL3.out]; exact hlt)
      rw [HL2.out] at hxl
      rw [HL1.out] at hebr
      obtain ⟨pb, po, rfl, hpl, hpc⟩ := (HP.out.later hBr).2 (by omega)
      have pc := hpc j hlt
      rw [hx] at pc
      obtain ⟨qb, qo, rfl, hql, hqc⟩ := (HG.out.later hBr).ed.2 (by omega)
      obtain ⟨h1, h2, h3x, h4⟩ := hqc x hxl
      obtain ⟨ea, eb, ek, ec, en⟩ : ∃ ea eb ek ec, ge es x = ⟨ea, eb, ek, ec⟩ := ⟨_, _, _, _, rfl⟩
      rw [en] at h1 h2 h3x h4 hea hcase hebr
      dsimp only at h1 h2 h3x h4 hea hcase hebr
      subst hea
      have HCase := Lib.hid hcase
      clear hpc hqc en hx hcase
      have t1 : decide ((x : Int) < 0) = false := by simp
      have t2 : decide ((n2 : Int) ≤ (x : Int)) = false := by simp; omega
      have t3 : decide (n2 ≤ x) = false := by simp; omega
      have t4 : (ea != ea) = false := by simp
      obtain ⟨ebn, rfl⟩ := Int.eq_ofNat_of_zero_le hebr.1
      go_upto_region 8 with fail
      go_quiet (fail)
      go_upto_region 10 with fail
      refine wp_named (fun V => Kept [] wr V ∧ Hid (V.ownsRow W.heap.size 3 1 (.slice A N c) N (cs.reverse.map (Value.int .i64)))) ⟨(Kept.refl _ _).drewN _, Lib.hid (own_drewN own.out _)⟩ ?_
      rintro V ⟨hkV, ownV⟩
      have hkWV : Kept [] W V := keptTrans hkr hkV
      have BV := hkWV.blk (by simp) B0
      have ⟨LV, CV, FV⟩ := BV
      have pcV := (hkV.cell pb _ hpl (by simp)).trans pc
      have k1 := (hkV.cell qb _ hql (by simp)).trans h1
      have k2 := (hkV.cell qb _ hql (by simp)).trans h2
      have k3 := (hkV.cell qb _ hql (by simp)).trans h3x
      have k4 := (hkV.cell qb _ hql (by simp)).trans h4
      have hplV : pb < V.heap.size := Nat.lt_of_lt_of_le hpl hkV.size
      have hqlV : qb < V.heap.size := Nat.lt_of_lt_of_le hql hkV.size
      have x1 : (0 : Int) ≤ (x : Int) := by omega
      have x2 : (x : Int) < (n2 : Int) := by omega
      have x3 : (j : Int) < (n3 : Int) := by omega
      clear CR FR LR pc h1 h2 h3x h4 own t1 t2 t3 t4
      go_cut [10] (fun s wx => ∃ g, s = .pointer (some ⟨g, 0, none⟩) ∧ Blk wx g [.int .i64 ea, .int .i64 ebn, .int .i64 ek, .int .i64 ec] ∧ Kept [] V wx ∧ V.heap.size ≤ g)
      case first =>
        go_region_held3 (fun w' => SX0 V w') (repeat' first | (with_reducible assumption) | (with_reducible exact SX0.init _) | (with_reducible exact SX0.refl _) | (with_reducible refine SX0.alloc ?_ _) | (with_reducible refine SX0.call ?_ (by assumption)) | (with_reducible refine SX0.set ?_ _ _ _ ?_) | (with_reducible refine SX0.drew ?_) | (simp; done) | omega | (simp; omega)) (fail)
        all_goals
          go_wp2_with fail
          go_meet
          refine ⟨_, rfl, ?_, ?_, ?_⟩
          · (repeat' first | (with_reducible assumption) | (with_reducible refine Blk.set1 ?_) | (with_reducible refine Blk.set2 ?_) | (with_reducible refine Blk.set3 ?_) | (with_reducible refine Blk.set4 ?_) | ((with_reducible refine Blk.new _ _ _ _ ?_); simp; done) | ((with_reducible refine BlkN.new _ _ _ _ _ rfl ?_); simp; done) | (with_reducible refine BlkN.later ?_ (by assumption)) | (with_reducible refine Blk.later ?_ (by assumption)) | (with_reducible refine Blk.alloc ?_ _) | (with_reducible refine BlkN.alloc ?_ _) | (with_reducible refine Blk.drew ?_) | (with_reducible refine BlkN.drew ?_))
          · (repeat' first | (with_reducible assumption) | (with_reducible exact Kept.refl _ _) | (with_reducible refine Kept.alloc ?_ _) | (with_reducible refine Kept.call ?_ (by assumption)) | (with_reducible refine Kept.set ?_ _ _ _ (Or.inr ?_)) | (with_reducible refine Kept.drew ?_) | (simp; done) | omega | (simp; omega))
          · first | omega | (simp; omega) | simp
      case rest =>
        obtain ⟨g, rfl, Bg, hkc, hgV⟩ := hcut
        have ⟨LG, CG, FG⟩ := Bg
        have BC := hkc.blk (by simp) BV
        have ⟨LC, CC, FC⟩ := BC
        have hkWc : Kept [] W wc := keptTrans hkWV hkc
        have hBc := hkWc.below hB hB.size (by simp)
        have ownC := Lib.hid (own_keptX ownV.out hkc (by simp))
        clear CV FV pcV k1 k2 k3 k4 ownV
        have hszc := hkWc.size
        rcases HCase.out with ⟨hkk, r, hcs, inv2⟩ | ⟨hkk, inv2⟩ | ⟨hk2', hk3', hk4', inv2⟩
        rotate_left
        · have t2 : (ek == 2) = true := by simpa using hkk
          obtain ⟨M, hM⟩ : ∃ M, N + 1 = M := ⟨_, rfl⟩
          have INV2 := Lib.hid inv2
          clear inv2 hkk HCase
          go_upto_region 20 with (first | (at_builtin; refine wpList_append_rd _ rfl _ _ 26 rfl W.heap.size 3 i0 (.int .i64 0) 1 8 Try.underlying26 hi hz0 hz1 hz2 rfl (by decide) (.slice A N c) N (cs.reverse.map (Value.int .i64)) rfl (own_alloc ownC.out _) (some ⟨wc.heap.size, 0, none⟩) 1 1 [.int .i64 ea] rfl (Rd.new1 _ _ _ _ rfl) (fun h => by cases h) (by intro u hu; simp at hu; subst hu; rfl) M hM ((ea :: cs).reverse.map (Value.int .i64)) (by simp) (by unfold maxLen; omega) (by omega) (by simp; omega) ?_; intro A9 c9 w4 hown4 hk4 hat4; have HX : Hid (∀ y ∈ (Value.slice A N c).ownBlock.toList, W.heap.size ≤ y) := (fun y hy => own_ge ownC.out (by simpa using hy)); have hk5 := Lib.hid ((hkWc.alloc (.cells #[.int .i64 ea] 3)).next hk4 (fun y hy => Or.inr (HX.out y hy))); have HO4 := Lib.hid hown4; clear hown4 hk4 hat4))
          refine wp_named (fun V2 => Kept [] W V2 ∧ Hid (V2.ownsRow W.heap.size 3 1 (.slice A9 M c9) M ((ea :: cs).reverse.map (Value.int .i64)))) ⟨hk5.out, HO4⟩ ?_
          rintro V2 ⟨hkW2, own2⟩
          have hB2' := hkW2.below hB hB.size (by simp)
          have ⟨LQ, CQ, FQ⟩ := hkW2.blk (by simp) B0
          have hG2 := Lib.hid (HG.out.later hB2')
          have hP2 := Lib.hid ((HP.out.later hB2').take (show j + 1 ≤ n3 by omega))
          have HF1 := Lib.hid (Sp.vinv_follow COK.out (by rw [HL3.out]; omega) INV2.out)
          have HN2 : Hid ((ea :: cs).length = M) := by show _ = _; have := own2.out.1; simpa using this
          obtain ⟨vb, hvb⟩ : ∃ vb, (M == 0) = vb := ⟨_, rfl⟩
          have hvi : ((M : Int) == 0) = vb := by rw [← hvb, Bool.eq_iff_iff]; simp
          have HBL : Hid (Sp.balS ns es mn frn (path.take (j + 1)) = vb) := by
            show _ = _
            unfold Sp.balS
            rw [HF1.out, ← hvb, ← HN2.out, Bool.eq_iff_iff]
            simp
          have hvv : (vb != vb) = false := by simp
          have j1 : IntKind.i64.wrap ((j : Int) + 1) = (j : Int) + 1 := IntWalk.i64_in _ (by omega)
          have j2 : (0 : Int) ≤ (j : Int) + 1 := by omega
          have j3 : (j : Int) + 1 ≤ (c3 : Int) := by omega
          have j4 : j + 1 ≤ c3 := by omega
          have j5 : j < c3 := by omega
          have j6 : ((j : Int) + 1).toNat = j + 1 := by omega
          go_cut [127] (fun s wx => s = .bool false ∧ Kept [] V2 wx)
          case first =>
            go_region_held3 (fun w' => SX0 V2 w') (repeat' first | (with_reducible assumption) | (with_reducible exact SX0.init _) | (with_reducible exact SX0.refl _) | (with_reducible refine SX0.alloc ?_ _) | (with_reducible refine SX0.call ?_ (by assumption)) | (with_reducible refine SX0.set ?_ _ _ _ ?_) | (with_reducible refine SX0.drew ?_) | (simp; done) | omega | (simp; omega))
              (first
                | (go_at_call 11; ((with_reducible refine (pcheck_is _ _ _ _ _ _ _ _ _ _ _ ns es (path.take (j + 1)) _ (hG2.out.kept (by first | exact (by assumption : SX0 V2 _).1)) (hP2.out.kept (by first | exact (by assumption : SX0 V2 _).1)) 0 (congrArg Prod.fst HF1.out)).mono ?_)); rintro e w3 ⟨rfl, hb3⟩; obtain ⟨hc3, hf3, hg3⟩ := bcell hb3; have hz3 := hb3.size; try simp at hz3)
                | (go_at_call 13; ((with_reducible refine (bal_is _ _ _ _ _ _ _ _ _ _ _ ns es (path.take (j + 1)) _ (hG2.out.kept (by first | exact (by assumption : SX0 V2 _).1)) (hP2.out.kept (by first | exact (by assumption : SX0 V2 _).1)) vb HBL.out).mono ?_)); rintro e w4 ⟨rfl, hb4⟩; obtain ⟨hc4, hf4, hg4⟩ := bcell hb4; have hz4 := hb4.size; try simp at hz4))
            all_goals
              go_wp2_with fail
              go_meet
              refine ⟨?_, ?_⟩
              · first | rfl | simp
              · (repeat' first | (with_reducible assumption) | (with_reducible exact Kept.refl _ _) | (with_reducible refine Kept.alloc ?_ _) | (with_reducible refine Kept.call ?_ (by assumption)) | (with_reducible refine Kept.set ?_ _ _ _ (Or.inr ?_)) | (with_reducible refine Kept.drew ?_) | (simp; done) | omega | (simp; omega))
          case rest =>
            obtain ⟨rfl, hkd⟩ := hcut
            rename World => wd
            have hkWd : Kept [] W wd := keptTrans hkW2 hkd
            have hBd := hkWd.below hB hB.size (by simp)
            have ⟨LD, CD, FD⟩ := hkWd.blk (by simp) B0
            have ownD := Lib.hid (own_keptX own2.out hkd (by simp))
            obtain ⟨nb, no, rfl, hnl, hnc⟩ := (HG.out.later hBd).nd.2 (by omega)
            obtain ⟨f1, -, -⟩ := hnc ebn (by omega)
            obtain ⟨f2, -, -⟩ := hnc frn (by omega)
            have y1 : (ebn : Int) < (n1 : Int) := by omega
            have y2 : (frn : Int) < (n1 : Int) := by omega
            have y3 : ebn < n1 := by omega
            have y4 : frn < n1 := by omega
            clear hnc CQ FQ
            cases vb with
            | true =>
              have HFN : Hid ((gn ns ebn).f = (gn ns frn).f) := by
                show _ = _
                have h1 := INV2.out.fn
                have h2 : (ea :: cs) = [] := List.length_eq_zero_iff.mp (by rw [HN2.out]; simpa using hvb)
                rw [h2] at h1
                simpa [Sp.lastD] using h1
              rw [HFN.out] at f1
              obtain ⟨F, hF⟩ : ∃ F, (gn ns frn).f = F := ⟨_, rfl⟩
              rw [hF] at f1 f2
              have hFF : (F != F) = false := by simp
              clear hF
              go_upto_region 22 with fail
              go_quiet (fail)
              go_wp2_with fail
              exact ⟨⟨j + 1, ebn, (ea :: cs), A9, M, c9, by go_num, by omega, rfl, rfl, hkWd.drewN _, Lib.hid (own_drewN ownD.out _), INV2⟩, by simp [intOf]; omega⟩
            | false =>
              go_upto_region 22 with fail
              go_quiet (fail)
              go_wp2_with fail
              exact ⟨⟨j + 1, ebn, (ea :: cs), A9, M, c9, by go_num, by omega, rfl, rfl, hkWd.drewN _, Lib.hid (own_drewN ownD.out _), INV2⟩, by simp [intOf]; omega⟩
        · have t2 : (ek == 2) = false := by simpa using hk2'
          have t3 : (ek == 3) = false := by simpa using hk3'
          have t4 : (ek == 4) = false := by simpa using hk4'
          have INV2 := Lib.hid inv2
          clear inv2 hk2' hk3' hk4' HCase
          go_upto_region 20 with fail
          refine wp_named (fun V2 => Kept [] W V2 ∧ Hid (V2.ownsRow W.heap.size 3 1 (.slice A N c) N (cs.reverse.map (Value.int .i64)))) ⟨hkWc, ownC⟩ ?_
          rintro V2 ⟨hkW2, own2⟩
          have hB2' := hkW2.below hB hB.size (by simp)
          have ⟨LQ, CQ, FQ⟩ := hkW2.blk (by simp) B0
          have hG2 := Lib.hid (HG.out.later hB2')
          have hP2 := Lib.hid ((HP.out.later hB2').take (show j + 1 ≤ n3 by omega))
          have HF1 := Lib.hid (Sp.vinv_follow COK.out (by rw [HL3.out]; omega) INV2.out)
          have HN2 : Hid (cs.length = N) := by show _ = _; have := own2.out.1; simpa using this
          obtain ⟨vb, hvb⟩ : ∃ vb, (N == 0) = vb := ⟨_, rfl⟩
          have hvi : ((N : Int) == 0) = vb := by rw [← hvb, Bool.eq_iff_iff]; simp
          have HBL : Hid (Sp.balS ns es mn frn (path.take (j + 1)) = vb) := by
            show _ = _
            unfold Sp.balS
            rw [HF1.out, ← hvb, ← HN.out, Bool.eq_iff_iff]
            simp
          have hvv : (vb != vb) = false := by simp
          have j1 : IntKind.i64.wrap ((j : Int) + 1) = (j : Int) + 1 := IntWalk.i64_in _ (by omega)
          have j2 : (0 : Int) ≤ (j : Int) + 1 := by omega
          have j3 : (j : Int) + 1 ≤ (c3 : Int) := by omega
          have j4 : j + 1 ≤ c3 := by omega
          have j5 : j < c3 := by omega
          have j6 : ((j : Int) + 1).toNat = j + 1 := by omega
          go_cut [127] (fun s wx => s = .bool false ∧ Kept [] V2 wx)
          case first =>
            go_region_held3 (fun w' => SX0 V2 w') (repeat' first | (with_reducible assumption) | (with_reducible exact SX0.init _) | (with_reducible exact SX0.refl _) | (with_reducible refine SX0.alloc ?_ _) | (with_reducible refine SX0.call ?_ (by assumption)) | (with_reducible refine SX0.set ?_ _ _ _ ?_) | (with_reducible refine SX0.drew ?_) | (simp; done) | omega | (simp; omega))
              (first
                | (go_at_call 11; ((with_reducible refine (pcheck_is _ _ _ _ _ _ _ _ _ _ _ ns es (path.take (j + 1)) _ (hG2.out.kept (by first | exact (by assumption : SX0 V2 _).1)) (hP2.out.kept (by first | exact (by assumption : SX0 V2 _).1)) 0 (congrArg Prod.fst HF1.out)).mono ?_)); rintro e w3 ⟨rfl, hb3⟩; obtain ⟨hc3, hf3, hg3⟩ := bcell hb3; have hz3 := hb3.size; try simp at hz3)
                | (go_at_call 13; ((with_reducible refine (bal_is _ _ _ _ _ _ _ _ _ _ _ ns es (path.take (j + 1)) _ (hG2.out.kept (by first | exact (by assumption : SX0 V2 _).1)) (hP2.out.kept (by first | exact (by assumption : SX0 V2 _).1)) vb HBL.out).mono ?_)); rintro e w4 ⟨rfl, hb4⟩; obtain ⟨hc4, hf4, hg4⟩ := bcell hb4; have hz4 := hb4.size; try simp at hz4))
            all_goals
              go_wp2_with fail
              go_meet
              refine ⟨?_, ?_⟩
              · first | rfl | simp
              · (repeat' first | (with_reducible assumption) | (with_reducible exact Kept.refl _ _) | (with_reducible refine Kept.alloc ?_ _) | (with_reducible refine Kept.call ?_ (by assumption)) | (with_reducible refine Kept.set ?_ _ _ _ (Or.inr ?_)) | (with_reducible refine Kept.drew ?_) | (simp; done) | omega | (simp; omega))
          case rest =>
            obtain ⟨rfl, hkd⟩ := hcut
            rename World => wd
            have hkWd : Kept [] W wd := keptTrans hkW2 hkd
            have hBd := hkWd.below hB hB.size (by simp)
            have ⟨LD, CD, FD⟩ := hkWd.blk (by simp) B0
            have ownD := Lib.hid (own_keptX own2.out hkd (by simp))
            obtain ⟨nb, no, rfl, hnl, hnc⟩ := (HG.out.later hBd).nd.2 (by omega)
            obtain ⟨f1, -, -⟩ := hnc ebn (by omega)
            obtain ⟨f2, -, -⟩ := hnc frn (by omega)
            have y1 : (ebn : Int) < (n1 : Int) := by omega
            have y2 : (frn : Int) < (n1 : Int) := by omega
            have y3 : ebn < n1 := by omega
            have y4 : frn < n1 := by omega
            clear hnc CQ FQ
            cases vb with
            | true =>
              have HFN : Hid ((gn ns ebn).f = (gn ns frn).f) := by
                show _ = _
                have h1 := INV2.out.fn
                have h2 : cs = [] := List.length_eq_zero_iff.mp (by rw [HN.out]; simpa using hvb)
                rw [h2] at h1
                simpa [Sp.lastD] using h1
              rw [HFN.out] at f1
              obtain ⟨F, hF⟩ : ∃ F, (gn ns frn).f = F := ⟨_, rfl⟩
              rw [hF] at f1 f2
              have hFF : (F != F) = false := by simp
              clear hF
              go_upto_region 22 with fail
              go_quiet (fail)
              go_wp2_with fail
              exact ⟨⟨j + 1, ebn, cs, A, N, c, by go_num, by omega, rfl, rfl, hkWd.drewN _, Lib.hid (own_drewN ownD.out _), INV2⟩, by simp [intOf]; omega⟩
            | false =>
              go_upto_region 22 with fail
              go_quiet (fail)
              go_wp2_with fail
              exact ⟨⟨j + 1, ebn, cs, A, N, c, by go_num, by omega, rfl, rfl, hkWd.drewN _, Lib.hid (own_drewN ownD.out _), INV2⟩, by simp [intOf]; omega⟩
        · have t2 : (ek == 2) = false := by simp; omega
          have hkk' : (ek == 3) = true ∨ ((ek == 3) = false ∧ (ek == 4) = true) := by
            rcases hkk with rfl | rfl
            · exact .inl rfl
            · exact .inr ⟨rfl, rfl⟩
          have INV2 := Lib.hid inv2
          have HCS := Lib.hid hcs
          have hNr : N = r.length + 1 := by rw [← HN.out, HCS.out]; rfl
          have hN0 : 0 < N := by omega
          obtain ⟨A', c', hv', hin, -⟩ := Ints.of_own ownC.out
          injection hv' with e1 e2 e3
          subst e1
          subst e3
          obtain ⟨sb, so, rfl, hsl, hsc⟩ := hin.2 hN0
          have sc := hsc (N - 1) (by omega)
          rw [show gi cs.reverse (N - 1) = ec by rw [gi_rev (by rw [HN.out]; omega), HN.out, show N - 1 - (N - 1) = 0 by omega, HCS.out]; rfl] at sc
          have hNc : N ≤ c := by
            rcases ownC.out.2 with ⟨h1, h2⟩ | ⟨g1, cap1, cur1, hv1, -, -, h3, h4, -, -⟩
            · omega
            · injection hv1 with _ _ e; omega
          have hcm : c ≤ 9223372036854775807 := by
            rcases ownC.out.2 with ⟨h1, h2⟩ | ⟨g1, cap1, cur1, hv1, -, -, h3, h4, -, -⟩
            · omega
            · injection hv1 with _ _ e; unfold maxLen at h4; omega
          have OF := Lib.hid (own_front ownC.out (k := N - 1) (by omega) hN0)
          have HR : Hid ((cs.reverse.map (Value.int .i64)).take (N - 1) = r.reverse.map (Value.int .i64)) := by
            show _ = _
            rw [HCS.out, ← List.map_take, List.reverse_cons, List.take_append_of_le_length (by simp; omega), List.take_of_length_le (by simp; omega)]
          rw [HR.out] at OF
          have z1 : ((N : Int) == 0) = false := by simp; omega
          have z2 : (N == 0) = false := by simp; omega
          have z3 : IntKind.i64.wrap ((N : Int) - 1) = (N : Int) - 1 := IntWalk.i64_in _ (by omega)
          have z4 : (0 : Int) ≤ (N : Int) - 1 := by omega
          have z5 : ((N : Int) - 1).toNat = N - 1 := by omega
          have z6 : (N : Int) - 1 < (N : Int) := by omega
          have z7 : 1 ≤ N := by omega
          have z8 : (1 : Int) ≤ (N : Int) := by omega
          have z9 : (N : Int) - 1 ≤ (c : Int) := by omega
          have z10 : N - 1 < N := by omega
          have z11 : (N : Int) ≤ (c : Int) + 1 := by omega
          have z12 : N ≤ c + 1 := by omega
          have z13 : (ec != ec) = false := by simp
          have z14 : N ≠ 0 := by omega
          have z15 : ¬ N = 0 := by omega
          clear inv2 hkk HCase hsc hcs hin hNr HR
          rcases hkk' with t3 | ⟨t3, t4⟩
          all_goals
            go_upto_region 17 with fail
            go_quiet (fail)
            go_upto_region 20 with fail
            obtain ⟨M, hM⟩ : ∃ M, N - 1 = M := ⟨_, rfl⟩
            rw [hM] at OF ⊢
            refine wp_named (fun V2 => Kept [] W V2 ∧ Hid (V2.ownsRow W.heap.size 3 1 (.slice (some ⟨sb, so, none⟩) M c) M (r.reverse.map (Value.int .i64)))) ⟨hkWc.drewN _, Lib.hid (own_drewN OF.out _)⟩ ?_
            rintro V2 ⟨hkW2, own2⟩
            have hB2' := hkW2.below hB hB.size (by simp)
            have ⟨LQ, CQ, FQ⟩ := hkW2.blk (by simp) B0
            have hG2 := Lib.hid (HG.out.later hB2')
            have hP2 := Lib.hid ((HP.out.later hB2').take (show j + 1 ≤ n3 by omega))
            have HF1 := Lib.hid (Sp.vinv_follow COK.out (by rw [HL3.out]; omega) INV2.out)
            have HN2 : Hid (r.length = M) := by show _ = _; have := own2.out.1; simpa using this
            obtain ⟨vb, hvb⟩ : ∃ vb, (M == 0) = vb := ⟨_, rfl⟩
            have hvi : ((M : Int) == 0) = vb := by rw [← hvb, Bool.eq_iff_iff]; simp
            have HBL : Hid (Sp.balS ns es mn frn (path.take (j + 1)) = vb) := by
              show _ = _
              unfold Sp.balS
              rw [HF1.out, ← hvb, ← HN2.out, Bool.eq_iff_iff]
              simp
            have hvv : (vb != vb) = false := by simp
            have j1 : IntKind.i64.wrap ((j : Int) + 1) = (j : Int) + 1 := IntWalk.i64_in _ (by omega)
            have j2 : (0 : Int) ≤ (j : Int) + 1 := by omega
            have j3 : (j : Int) + 1 ≤ (c3 : Int) := by omega
            have j4 : j + 1 ≤ c3 := by omega
            have j5 : j < c3 := by omega
            have j6 : ((j : Int) + 1).toNat = j + 1 := by omega
            go_cut [127] (fun s wx => s = .bool false ∧ Kept [] V2 wx)
            case first =>
              go_region_held3 (fun w' => SX0 V2 w') (repeat' first | (with_reducible assumption) | (with_reducible exact SX0.init _) | (with_reducible exact SX0.refl _) | (with_reducible refine SX0.alloc ?_ _) | (with_reducible refine SX0.call ?_ (by assumption)) | (with_reducible refine SX0.set ?_ _ _ _ ?_) | (with_reducible refine SX0.drew ?_) | (simp; done) | omega | (simp; omega))
                (first
                  | (go_at_call 11; ((with_reducible refine (pcheck_is _ _ _ _ _ _ _ _ _ _ _ ns es (path.take (j + 1)) _ (hG2.out.kept (by first | exact (by assumption : SX0 V2 _).1)) (hP2.out.kept (by first | exact (by assumption : SX0 V2 _).1)) 0 (congrArg Prod.fst HF1.out)).mono ?_)); rintro e w3 ⟨rfl, hb3⟩; obtain ⟨hc3, hf3, hg3⟩ := bcell hb3; have hz3 := hb3.size; try simp at hz3)
                  | (go_at_call 13; ((with_reducible refine (bal_is _ _ _ _ _ _ _ _ _ _ _ ns es (path.take (j + 1)) _ (hG2.out.kept (by first | exact (by assumption : SX0 V2 _).1)) (hP2.out.kept (by first | exact (by assumption : SX0 V2 _).1)) vb HBL.out).mono ?_)); rintro e w4 ⟨rfl, hb4⟩; obtain ⟨hc4, hf4, hg4⟩ := bcell hb4; have hz4 := hb4.size; try simp at hz4))
              all_goals
                go_wp2_with fail
                go_meet
                refine ⟨?_, ?_⟩
                · first | rfl | simp
                · (repeat' first | (with_reducible assumption) | (with_reducible exact Kept.refl _ _) | (with_reducible refine Kept.alloc ?_ _) | (with_reducible refine Kept.call ?_ (by assumption)) | (with_reducible refine Kept.set ?_ _ _ _ (Or.inr ?_)) | (with_reducible refine Kept.drew ?_) | (simp; done) | omega | (simp; omega))
            case rest =>
              obtain ⟨rfl, hkd⟩ := hcut
              rename World => wd
              have hkWd : Kept [] W wd := keptTrans hkW2 hkd
              have hBd := hkWd.below hB hB.size (by simp)
              have ⟨LD, CD, FD⟩ := hkWd.blk (by simp) B0
              have ownD := Lib.hid (own_keptX own2.out hkd (by simp))
              obtain ⟨nb, no, rfl, hnl, hnc⟩ := (HG.out.later hBd).nd.2 (by omega)
              obtain ⟨f1, -, -⟩ := hnc ebn (by omega)
              obtain ⟨f2, -, -⟩ := hnc frn (by omega)
              have y1 : (ebn : Int) < (n1 : Int) := by omega
              have y2 : (frn : Int) < (n1 : Int) := by omega
              have y3 : ebn < n1 := by omega
              have y4 : frn < n1 := by omega
              clear hnc CQ FQ
              cases vb with
              | true =>
                have HFN : Hid ((gn ns ebn).f = (gn ns frn).f) := by
                  show _ = _
                  have h1 := INV2.out.fn
                  have h2 : r = [] := List.length_eq_zero_iff.mp (by rw [HN2.out]; simpa using hvb)
                  rw [h2] at h1
                  simpa [Sp.lastD] using h1
                rw [HFN.out] at f1
                obtain ⟨F, hF⟩ : ∃ F, (gn ns frn).f = F := ⟨_, rfl⟩
                rw [hF] at f1 f2
                have hFF : (F != F) = false := by simp
                clear hF
                go_upto_region 22 with fail
                go_quiet (fail)
                go_wp2_with fail
                exact ⟨⟨j + 1, ebn, r, _, M, c, by go_num, by omega, rfl, rfl, hkWd.drewN _, Lib.hid (own_drewN ownD.out _), INV2⟩, by simp [intOf]; omega⟩
              | false =>
                go_upto_region 22 with fail
                go_quiet (fail)
                go_wp2_with fail
                exact ⟨⟨j + 1, ebn, r, _, M, c, by go_num, by omega, rfl, rfl, hkWd.drewN _, Lib.hid (own_drewN ownD.out _), INV2⟩, by simp [intOf]; omega⟩
    · obtain rfl : j = n3 := by omega
      have HFo : Hid (Sp.followS ns es mn frn path = (0, a, cs)) := by
        show _ = _
        have := Sp.vinv_follow COK.out (by rw [HL3.out]; omega) inv.out
        rwa [← HL3.out, List.take_length] at this
      have hcl : Hid (cs.length ≤ 1000000) := by show _ ≤ _; rw [HN.out]; omega
      obtain ⟨A', c', hv', hin, -⟩ := Ints.of_own own.out
      injection hv' with e1 e2 e3
      subst e1
      have HIN := Lib.hid hin
      clear hin hlt
      go_wp2_with (first
        | (go_at_call 14; refine (stack_is _ _ _ _ _ _ _ _ _ mn frn ns es path _ (HG.out.later hBr) (HP.out.later hBr) 0 a cs HFo.out hcl.out).mono ?_; rintro e w5 ⟨SA, sn, sc, rfl, si, -, hb5⟩; have SI := Lib.hid si; have hkr5 : Kept [] wr w5 := (Kept.refl _ _).call hb5; have hkW5 : Kept [] W w5 := keptTrans hkr hkr5; have hB5 := hkW5.below hB hB.size (by simp); have ⟨L5, C5, F5⟩ := hkW5.blk (by simp) B0; have hsn : sn ≤ 1000000 := (by have h1 := si.1; have h2 := hcl.out; simp at h1; omega); clear CR FR si)
        | (go_at_call 15; refine (end_is _ _ _ _ _ _ _ _ _ mn frn ns es path _ (HG.out.later hB5) (HP.out.later hB5) 0 a cs HFo.out).mono ?_; rintro e w6 ⟨rfl, hb6⟩; have hk56 : Kept [] w5 w6 := (Kept.refl _ _).call hb6; have hkr6 : Kept [] wr w6 := keptTrans hkr5 hk56; have hkW6 : Kept [] W w6 := keptTrans hkr hkr6; clear C5 F5)
        | (go_at_call 16; refine (equal_is _ _ _ _ _ _ cs.reverse _ (SI.out.kept hk56) (HIN.out.kept hkr6) hsn).mono ?_; rintro e w7 ⟨rfl, hb7⟩; have hkW7 : Kept [] W w7 := hkW6.call hb7)
        | (go_at_call 12; refine (awake_any _).mono ?_; rintro e w8 ⟨rfl, hb8⟩))
      go_ret
      exact ⟨rfl, (hkW7.call hb8).below hB hB.size (by simp)⟩
end Go.Proofs.Ytmjebjjhfoncfaa
