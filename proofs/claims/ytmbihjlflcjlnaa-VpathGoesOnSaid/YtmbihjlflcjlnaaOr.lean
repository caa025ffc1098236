/- The walk of VpathGoesOn. -/
import Derived.Test.YtmbihjlflcjlnaaOm
import Derived.Test.YtmbihjlflcjlnaaOq
import Derived.Test.YtmbihjlflcjlnaaOx
namespace Go.Proofs.Ytmbihjlflcjlnaa
open Go.RowKit Go.Df
attribute [local go_sem ↓] Go.wp_at_zero Go.wp_at_succ

theorem ints_of6 {w : World} {base : Nat} {e : TypeId} {A : Option Addr} {n c : Nat} {l : List Int} (h : w.ownsRow base e 1 (.slice A n c) n (l.map (Value.int .i64))) : Ints w A n l := by
  obtain ⟨A', c', hv, hi, _⟩ := Ints.of_own h
  injection hv with e1 _ _
  rw [e1]
  exact hi
set_option maxRecDepth 100000 in
set_option maxHeartbeats 8000000 in
theorem vgoes_any (A1 A2 A3 : Option Addr) (n1 c1 n2 c2 n3 c3 : Nat) (mn fr : Int) (ns : List Sp.Nd) (es : List Sp.Ed) (path : List Int) (w : World) (hg : Gr w A1 n1 A2 n2 ns es) (hp : SIn w A3 n3 c3 path) :
    Calls Try.prog 3 #[.agg #[.slice A1 n1 c1, .slice A2 n2 c2, .int .i64 mn], .int .i64 fr, .slice A3 n3 c3] w fun e w' => e = .returned (.bool true) ∧ Below w.heap.size w w' := by
  obtain ⟨i0, hi, hz0, hz1, hz2⟩ := info_parts int_info
  have HG := Lib.hid hg
  have HP := Lib.hid hp
  have HL3 := Lib.hid hp.1.1
  clear hg hp
  go_enter Try.func3, Try.ntmps3
  go_upto_region 1 with fail
  refine wp_named (fun W => ∃ b0, w.heap.size = b0 ∧ Blk W b0 [.slice A1 n1 c1, .slice A2 n2 c2, .int .i64 mn] ∧ Below w.heap.size w W) ⟨_, rfl, ?_, ?_⟩ ?_
  · exact Blk.new _ _ _ _ (by first | rfl | simp)
  · go_grown
  rintro W ⟨b0, e0, B0, hB⟩
  rw [e0]
  have G0 : w.heap.size ≤ b0 := by omega
  clear e0
  have ⟨L0, C0, F0⟩ := B0
  obtain ⟨v, hv⟩ : ∃ v, v = (decide (n1 ≤ 40) && decide (n2 ≤ 120)) := ⟨_, rfl⟩
  have HV := Lib.hid hv
  clear hv
  cases v with
  | false =>
    go_wp2_with (first
      | (go_at_call 4; refine (small_any _ _ _ _ _ _ _ false HV.out _).mono ?_; rintro e w1 ⟨rfl, hb1⟩)
      | (go_at_call 6; refine (awake_any _).mono ?_; rintro e w2 ⟨rfl, hb2⟩))
    go_ret
    exact ⟨rfl, (((Kept.refl [] W).call hb1).call hb2).below hB hB.size (by simp)⟩
  | true =>
  by_cases h60 : 5 < n3
  · have d60 : decide ((5 : Int) < (n3 : Int)) = true := by simp; omega
    go_wp2_with (first
      | (go_at_call 4; refine (small_any _ _ _ _ _ _ _ true HV.out _).mono ?_; rintro e w1 ⟨rfl, hb1⟩)
      | (go_at_call 6; refine (awake_any _).mono ?_; rintro e w2 ⟨rfl, hb2⟩))
    go_ret
    exact ⟨rfl, (((Kept.refl [] W).call hb1).call hb2).below hB hB.size (by simp)⟩
  have d60 : decide ((5 : Int) < (n3 : Int)) = false := by simp; omega
  have hn5 : n3 ≤ 5 := by omega
  have hn2 : n2 ≤ 120 := by
    have := HV.out
    simp only [Bool.true_eq, Bool.and_eq_true, decide_eq_true_eq] at this
    omega
  clear h60
  obtain ⟨⟨er, a, cs⟩, hf⟩ : ∃ x, Sp.followS ns es mn fr path = x := ⟨_, rfl⟩
  have HF := Lib.hid hf
  clear hf
  by_cases he : er = 0
  case neg =>
    have he' : (er != 0) = true := by simpa using he
    clear he
    go_wp2_with (first
      | (go_at_call 4; refine (small_any _ _ _ _ _ _ _ true HV.out _).mono ?_; rintro e w1 ⟨rfl, hb1⟩; have hk1 : Kept [] W w1 := (Kept.refl _ _).call hb1; have ⟨L1', C1', F1'⟩ := hk1.blk (by simp) B0; clear C0 F0)
      | (go_at_call 5; refine (rcheck_any _ _ _ _ _ _ _ _ _ mn fr ns es path _ ((HG.out.later hB).kept hk1) ((HP.out.later hB).kept hk1).1 er a cs HF.out).mono ?_; rintro e w2 ⟨rfl, hb2⟩)
      | (go_at_call 6; refine (awake_any _).mono ?_; rintro e w3 ⟨rfl, hb3⟩))
    go_ret
    exact ⟨rfl, ((hk1.call hb2).call hb3).below hB hB.size (by simp)⟩
  subst he
  obtain ⟨nx, hnx⟩ : ∃ x, Sp.okL es a cs n2 = x := ⟨_, rfl⟩
  have HNX := Lib.hid hnx
  have hnl : nx.length ≤ n2 := by rw [← hnx]; exact Sp.okL_len es a cs n2
  have HE2 : Hid (es.length = n2) := HG.out.ed.1
  have HNS : Hid (Sp.nxtS ns es mn fr path = (0, ofNats nx)) := Lib.hid (by
    unfold Sp.nxtS
    rw [HF.out, if_neg (by simp), if_neg (by rw [HL3.out]; omega), Sp.nextS_ok, HE2.out, hnx])
  clear hnx
  go_upto_region 3 with (first
    | (go_at_call 4; refine (small_any _ _ _ _ _ _ _ true HV.out _).mono ?_; rintro e w1 ⟨rfl, hb1⟩; have hk1 : Kept [] W w1 := (Kept.refl _ _).call hb1; have ⟨L1', C1', F1'⟩ := hk1.blk (by simp) B0; clear C0 F0)
    | (go_at_call 5; refine (rcheck_any _ _ _ _ _ _ _ _ _ mn fr ns es path _ ((HG.out.later hB).kept hk1) ((HP.out.later hB).kept hk1).1 0 a cs HF.out).mono ?_; rintro e w2 ⟨rfl, hb2⟩; have hk2 : Kept [] W w2 := hk1.call hb2; have ⟨L2', C2', F2'⟩ := hk2.blk (by simp) B0; clear C1' F1'))
  go_wp2_with (go_at_call 7; refine (pnext_any _ _ _ _ _ _ _ _ _ mn fr ns es path _ ((HG.out.later hB).kept hk2) ((HP.out.later hB).kept hk2).1 (by omega) 0 (ofNats nx) HNS.out).mono ?_; rintro e w3 ⟨NA, nn, nc, rfl, ni, hnn, hb3⟩; have hk3 : Kept [] W w3 := hk2.call hb3; have B3 := hk3.blk (by simp) B0; have ⟨L3', C3', F3'⟩ := B3; have NI := Lib.hid ni; have hnn' : nx.length = nn := (by have := ni.1; rwa [ofNats_len] at this); clear ni C2' F2')
  go_loopw [9, 10] (fun s9 s10 wr => ∃ (i : Nat), i ≤ n2 ∧ s9 = .int .i64 ((Sp.okL es a cs i).length : Nat) ∧ s10 = .int .i64 i ∧ Kept [] w3 wr) (fun _ s10 _ => n2 - (intOf s10).toNat)
  case atStart => exact ⟨0, Nat.zero_le _, rfl, rfl, Kept.refl _ _⟩
  case round =>
  obtain ⟨i, hi2, rfl, rfl, hkr⟩ := hrel
  have hkWr : Kept [] W wr := hk3.next hkr (by simp)
  have hkwr : Kept [] w wr := keptTrans ((Kept.refl [] w).call hB) hkWr
  have HGr := Lib.hid (HG.out.kept hkwr)
  have HPr := Lib.hid (HP.out.kept hkwr)
  have Br := hkr.blk (by simp) B3
  have ⟨Lr, Cr, Fr⟩ := Br
  obtain ⟨K, hK⟩ : ∃ K, (Sp.okL es a cs i).length = K := ⟨_, rfl⟩
  rw [hK]
  have HK := Lib.hid hK
  have hK2 : K ≤ 120 := by rw [← hK]; have := Sp.okL_len es a cs i; omega
  clear hK
  by_cases hlt : i < n2
  · have hlt' : (i : Int) < (n2 : Int) := by omega
    obtain ⟨ev, hev⟩ : ∃ x, (Sp.followS ns es mn fr (path ++ [(i : Int)])).1 = x := ⟨_, rfl⟩
    have HCK := Lib.hid hev
    obtain ⟨v, hv⟩ : ∃ v, (ev == 0) = v := ⟨_, rfl⟩
    have HOK : Hid (Sp.okE es a cs i = v) := Lib.hid (by rw [← hv, ← hev, Sp.follow_snoc HF.out (by rw [HL3.out]; omega)]; rfl)
    have HAT := Lib.hid (Sp.okL_at es a cs hlt)
    have HSU := Lib.hid (Sp.okL_succ es a cs i)
    have HAP : Hid (path.map (Value.int .i64) ++ [.int .i64 (i : Int)] = (path ++ [(i : Int)]).map (Value.int .i64)) := Lib.hid (by simp)
    clear hev C3' F3'
    go_upto_region 10 with fail
    go_cut [11] (fun s wx => s = .bool v ∧ Kept [] wr wx)
    case first =>
      go_region_held3 (fun w' => SX0 wr w') (repeat' first | (with_reducible assumption) | (with_reducible exact SX0.init _) | (with_reducible exact SX0.refl _) | (with_reducible refine SX0.alloc ?_ _) | (with_reducible refine SX0.call ?_ (by assumption)) | (with_reducible refine SX0.set ?_ _ _ _ ?_) | (with_reducible refine SX0.drew ?_) | (simp; done) | omega | (simp; omega))
        (first | (refine step_append_rd _ rfl (.tmp 50) (.tmp 51) 26 rfl wr.heap.size 3 i0 (.int .i64 0) 1 8 Try.underlying26 hi hz0 hz1 hz2 rfl (by decide) (.slice (some ⟨_, 0, none⟩) 0 0) 0 [] rfl (by first | exact own_new0 _ _ _ _ (by first | rfl | simp) (by first | (simp; done) | (simp; omega)) | exact own_alloc (own_new0 _ _ _ _ (by first | rfl | simp) (by first | (simp; done) | (simp; omega))) _) A3 n3 c3 (path.map (Value.int .i64)) rfl ((Rd.ints HPr.out.1).kept (by (repeat' first | (with_reducible assumption) | (with_reducible exact Kept.refl _ _) | (with_reducible refine Kept.alloc ?_ _) | (with_reducible refine Kept.call ?_ (by assumption)) | (with_reducible refine Kept.drew ?_) | (simp; done) | omega | (simp; omega)))) HPr.out.2.2.2 (ints_one _) n3 (by omega) (path.map (Value.int .i64)) rfl (by unfold maxLen; omega) (by omega) (by first | (simp; done) | (simp; omega) | omega) ?_; intro A5 c5 w5 hown5 hk5 hat5; have hkk5 : Kept [] wr w5 := kept_fresh (by (repeat' first | (with_reducible assumption) | (with_reducible exact Kept.refl _ _) | (with_reducible refine Kept.alloc ?_ _) | (with_reducible refine Kept.call ?_ (by assumption)) | (with_reducible refine Kept.drew ?_) | (simp; done) | omega | (simp; omega))) hk5 (by simp [Value.ownBlock]); have hs5 : SX0 wr w5 := SX0.of hkk5; have ho5 := own_rng hown5) | (refine step_append_rd _ rfl (.tmp 52) (.tmp 54) 26 rfl wr.heap.size 3 i0 (.int .i64 0) 1 8 Try.underlying26 hi hz0 hz1 hz2 rfl (by decide) (.slice A5 n3 c5) n3 (path.map (Value.int .i64)) rfl (by first | exact hown5 | exact own_alloc hown5 _) _ 1 1 [.int .i64 (i : Int)] rfl (by (repeat' first | (with_reducible refine Rd.drew ?_) | (with_reducible refine Rd.keptX ?_ hk5 ?_) | ((with_reducible refine Rd.new1 _ _ _ _ ?_); simp; done) | (with_reducible refine Rd.alloc ?_ _) | (simp [Value.ownBlock]; done))) (fun h => by cases h) (by intro u hu; simp at hu; subst hu; rfl) (n3 + 1) rfl ((path ++ [(i : Int)]).map (Value.int .i64)) HAP.out (by unfold maxLen; omega) (by omega) (by have := hkk5.size; first | (simp; done) | (simp; omega) | omega) ?_; intro A6 c6 w6 hown6 hk6 hat6; have hkk6 : Kept [] wr w6 := kept_fresh (by (repeat' first | (with_reducible assumption) | (with_reducible exact Kept.refl _ _) | (with_reducible refine Kept.alloc ?_ _) | (with_reducible refine Kept.call ?_ (by assumption)) | (with_reducible refine Kept.drew ?_) | (simp; done) | omega | (simp; omega))) hk6 (fun y hy => (ho5.out y (by simpa using hy)).1); have hs6 : SX0 wr w6 := SX0.of hkk6) | (go_at_call 8; (with_reducible refine (pcheck_is A1 A2 A6 n1 c1 n2 c2 (n3 + 1) c6 mn fr ns es (path ++ [(i : Int)]) w6 (HGr.out.kept hkk6) (ints_of6 hown6) ev HCK.out).mono ?_); rintro e w7 ⟨rfl, hb7⟩; have hkk7 : Kept [] wr w7 := hkk6.call hb7; have hs7 : SX0 wr w7 := SX0.of hkk7))
      all_goals
        go_wp2_with fail
        go_meet
        exact ⟨rfl, by first | exact hkk7 | assumption⟩
    case rest =>
      obtain ⟨rfl, hkc⟩ := hcut
      have hk3c : Kept [] w3 wc := hkr.next hkc (by simp)
      have ⟨Lc, Cc, Fc⟩ := hkc.blk (by simp) Br
      have NIc := Lib.hid (NI.out.kept hk3c)
      clear Cr Fr hv
      cases v with
      | true =>
        have h9 := HAT.out.2 HOK.out
        rw [HNX.out, HK.out] at h9
        have hKn : K < nn := by omega
        have hKn' : (K : Int) < (nn : Int) := by omega
        obtain ⟨nb, no, rfl, hnl2, hnc⟩ := NIc.out.2 (by omega)
        have pc := hnc K hKn
        rw [h9.2] at pc
        clear hnc h9
        go_wp2_with fail
        exact ⟨⟨i + 1, by omega, by rw [HSU.out, if_pos HOK.out, List.length_append, HK.out]; simp, by go_num, hk3c⟩, by simp [intOf]; omega⟩
      | false =>
        have HS0 : Hid ((Sp.okL es a cs (i + 1)).length = K) := Lib.hid (by rw [HSU.out, if_neg (by rw [HOK.out]; simp), HK.out])
        by_cases hKn : K < nn
        · have hKn' : (K : Int) < (nn : Int) := by omega
          obtain ⟨nb, no, rfl, hnl2, hnc⟩ := NIc.out.2 (by omega)
          obtain ⟨y, hy⟩ : ∃ y, gi (ofNats nx) K = y := ⟨_, rfl⟩
          have pc := hnc K hKn
          rw [hy] at pc
          have hyi : (y == (i : Int)) = false := by
            rw [beq_eq_false_iff_ne]
            intro e
            have h8 := HAT.out.1 (by rw [HNX.out, HK.out]; exact ⟨by omega, by rw [hy]; exact e⟩)
            rw [HOK.out] at h8
            cases h8
          clear hnc hy
          go_wp2_with fail
          exact ⟨⟨i + 1, by omega, by rw [HS0.out], by go_num, hk3c⟩, by simp [intOf]; omega⟩
        · have hKn' : ¬ (K : Int) < (nn : Int) := by omega
          go_wp2_with fail
          exact ⟨⟨i + 1, by omega, by rw [HS0.out], by go_num, hk3c⟩, by simp [intOf]; omega⟩
  obtain rfl : i = n2 := by omega
  obtain rfl : K = nn := by rw [← HK.out, HNX.out]; exact hnn'
  have hfo := Sp.follow_ok HF.out
  have hall := fun w => vall_any A1 A2 n1 c1 i c2 mn fr n3 5000 ns es w
  obtain ⟨L, hL⟩ : ∃ L, (Sp.itI es 5000 fr (n3 + 1)).1 = L := ⟨_, rfl⟩
  have hL5 : L.length ≤ 5000 := by rw [← hL]; exact Sp.itI_out_len _
  have HLN : Hid (L.length < 5000 → path ∈ L) := Lib.hid (fun h => by
    have h8 := Sp.told_in (es := es) (count := 5000) (a := fr) (p := path) (by rw [HL3.out, hL]; exact h) (by rw [hfo.2])
    rw [HL3.out, hL] at h8
    exact h8)
  have HLP : Hid (∀ p ∈ L, p.length < n3 + 1) := Lib.hid (fun p hp => by rw [← hL] at hp; exact Sp.itI_out_path _ p hp)
  have HCE := Lib.hid hfo.1
  rw [hL] at hall
  have HALL := Lib.hid hall
  clear hall hfo hL C3' F3' hlt
  go_wp2_with (go_at_call 9; refine (HALL.out _ HGr.out HCE.out (by omega) (by omega) (by omega)).mono ?_; rintro e w5 ⟨lim, v, xs, rfl, hcome, hown, hb5⟩; have HCO := Lib.hid hcome; obtain ⟨N, hN⟩ : ∃ N, xs.length = N := ⟨_, rfl⟩; have HXN := Lib.hid hN; rw [hN] at hown; obtain ⟨Av, cv, rfl⟩ : ∃ A c, v = .slice A N c := (by rcases hown.2 with ⟨h8, h9⟩ | ⟨g, cap, cur, h8, _⟩; exact ⟨_, _, by rw [h8, h9]⟩; exact ⟨_, _, h8⟩); have HOV := Lib.hid hown; have hLN : L.length = N := (by rw [← hN]; exact hcome.1.symm); have hNe : ((nx.length : Int) != (K : Int)) = false := (by simp; omega); clear hcome hown hN)
  have hk5 : Kept [] wr w5 := (Kept.refl _ _).call hb5
  have hN5 : N ≤ 5000 := by omega
  go_loopw [14, 15] (fun s14 s15 wz => ∃ (j : Nat), j ≤ N ∧ s14 = .bool (decide (N = 5000 ∨ path ∈ L.take j)) ∧ s15 = .int .i64 j ∧ Kept [] w5 wz) (fun _ s15 _ => N - (intOf s15).toNat)
  case atStart => exact ⟨0, Nat.zero_le _, by (congr 1; rw [Bool.eq_iff_iff]; simp; try omega), rfl, Kept.refl _ _⟩
  case round =>
  rename World => wz
  obtain ⟨j, hj, rfl, rfl, hkz⟩ := hrel
  have hkWz : Kept [] W wz := (hkWr.next hk5 (by simp)).next hkz (by simp)
  have hBz := hkWz.below hB hB.size (by simp)
  have HPz := Lib.hid (HPr.out.kept ((hk5.next hkz (by simp))))
  obtain ⟨fv, hfv⟩ : ∃ fv, decide (N = 5000 ∨ path ∈ L.take j) = fv := ⟨_, rfl⟩
  rw [hfv]
  have HFV := Lib.hid hfv
  clear hfv
  by_cases hjl : j < N
  · have hjl' : (j : Int) < (N : Int) := by omega
    cases fv with
    | true =>
      have HN1 : Hid (decide (N = 5000 ∨ path ∈ L.take (j + 1)) = true) := Lib.hid (by
        have h8 := of_decide_eq_true HFV.out
        refine decide_eq_true (h8.imp_right fun h9 => ?_)
        rw [List.take_add_one]
        exact List.mem_append.2 (.inl h9))
      go_wp2_with fail
      exact ⟨⟨j + 1, by omega, by rw [HN1.out], by go_num, hkz⟩, by simp [intOf]; omega⟩
    | false =>
      obtain ⟨gv, cw, hvq, hgv1, hgv2, -, -, hcell, -⟩ := own_cellsT HOV.out (by omega)
      injection hvq with e1 _ e3
      subst e1 e3
      obtain ⟨lj, hlj⟩ : ∃ lj, L[j]? = some lj := ⟨_, List.getElem?_eq_getElem (by omega)⟩
      obtain ⟨⟨xA, xn, xc⟩, hxj, hxi⟩ := HCO.out.2 j lj hlj
      have pc := hcell j (by omega)
      rw [List.getElem?_map, hxj] at pc
      replace pc := (hkz.cell gv j hgv2 (by simp)).trans pc
      dsimp only [Option.map] at pc hxi
      have HXI := Lib.hid (hxi.kept hkz)
      obtain ⟨ev2, hev2⟩ : ∃ x, decide (lj = path) = x := ⟨_, rfl⟩
      have HN1 : Hid (decide (N = 5000 ∨ path ∈ L.take (j + 1)) = ev2) := Lib.hid (by
        rw [← hev2, Bool.eq_iff_iff]
        have h8 := of_decide_eq_false HFV.out
        rw [not_or] at h8
        simp only [decide_eq_true_eq]
        rw [List.take_add_one, hlj]
        simp only [Option.toList_some, List.mem_append, List.mem_singleton]
        constructor
        · rintro (h9 | h9 | h9)
          · exact absurd h9 h8.1
          · exact absurd h9 h8.2
          · exact h9.symm
        · intro h9
          exact .inr (.inr h9.symm))
      have HEV := Lib.hid hev2
      have hxn6 : xn ≤ 1000000 := by
        have h8 : lj ∈ L := List.mem_of_getElem? hlj
        have h9 := HLP.out lj h8
        have := hxi.1
        omega
      clear hcell hxi hlj hev2 hxj
      go_wp2_with (go_at_call 10; refine (equal_any xA A3 xn xc n3 c3 lj path wz HXI.out HPz.out.1 hxn6).mono ?_; rw [HEV.out]; rintro e w7 ⟨rfl, hb7⟩)
      exact ⟨⟨j + 1, by omega, by rw [HN1.out], by go_num, hkz.call hb7⟩, by simp [intOf]; omega⟩
  obtain rfl : j = N := by omega
  have hfv1 : fv = true := by
    rw [← HFV.out]
    refine decide_eq_true ?_
    by_cases h8 : j = 5000
    · exact .inl h8
    · right
      rw [List.take_of_length_le (by omega)]
      exact HLN.out (by omega)
  subst hfv1
  go_wp2_with (go_at_call 6; refine (awake_any _).mono ?_; rintro e w8 ⟨rfl, hb8⟩)
  go_ret
  exact ⟨rfl, (hkWz.call hb8).below hB hB.size (by simp)⟩
end Go.Proofs.Ytmbihjlflcjlnaa
