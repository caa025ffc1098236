/- A pack of texts: Yk Yl. -/
import Derived.Test.YtffkikhknabddaaZc
import Derived.Test.YtffkikhknabddaaYh
import Derived.Test.YtffkikhknabddaaZb
import Derived.Test.YtffkikhknabddaaXk
import Derived.Test.YtffkikhknabddaaZk
import Derived.Test.YtffkikhknabddaaZe
import Derived.Test.YtffkikhknabddaaKq
/- The contract of the reference's Short. -/
namespace Go.Proofs.Ytffkikhknabddaa
open Go.RowKit Go.Df Go.Df.If
attribute [local go_sem ↓] Go.wp_at_zero Go.wp_at_succ

set_option maxRecDepth 100000 in
set_option maxHeartbeats 8000000 in
theorem rshort_any {p : Pb} (A1 A2 A3 A4 : Option Addr) (n1 c1 n2 c2 n3 c3 n4 c4 K : Nat) (w : World) (hG : Gr w A1 n1 A2 n2 p.ns p.es) (hF : Flw w A3 n3 p.fl) (hS : Sds w A4 n4 p.sd) (hn4 : n4 ≤ 1000) (ho : Ok p) (hn1 : n1 ≤ 40) (hK : K ≤ 100) (L : List (List Int)) (hL : (Sp.itI p.es 2000 p.mn (K + 1)).1 = L) :
    Calls Try.prog 35 #[.agg #[.slice A1 n1 c1, .slice A2 n2 c2, .int .i64 p.mn, .int .i64 p.F, .slice A3 n3 c3, .slice A4 n4 c4], .int .i64 (K : Nat)] w fun e w' => ∃ S1 d1 S2 d2 m, m = L.length ∧ e = .returned (.tuple #[.agg #[.slice S1 n1 d1, .slice S2 n1 d2], .int .i64 (m : Nat)]) ∧ Bls w' S1 n1 ((List.range n1).map (shS p L).1) ∧ IntsR w' S2 n1 ((List.range n1).map (shS p L).2) ∧ Below w.heap.size w w' := by
  obtain ⟨i0, hinf0, hz0, hz1, hz2⟩ := info_parts booli_info
  obtain ⟨i2, hinf2, hx0, hx1, hx2⟩ := info_parts rowi_info
  have HG := Lib.hid hG
  have HF := Lib.hid hF
  have HS := Lib.hid hS
  have HO := Lib.hid ho
  have HL := Lib.hid hL
  have HRUN : Hid (∀ l ∈ L, (Sp.runS p.es p.mn [] l).1 = 0) := Lib.hid (fun l hl => Sp.itI_out_sound (K + 1) l (by rw [hL]; exact hl))
  have hLlen : L.length ≤ 2000 := by rw [← hL]; exact Sp.itI_out_len _
  have HLP : Hid (∀ l ∈ L, l.length ≤ 100) := Lib.hid (fun l hl => by have := Sp.itI_out_path (K + 1) l (by rw [hL]; exact hl); omega)
  have hmain := main_in (sup_parts ho.sup).2.2.1
  have HNL : Hid (p.ns.length = n1) := Lib.hid hG.nd.1
  have hn1p : 0 < n1 := by have := HNL.out; omega
  have HFN : Hid (p.F ≤ 1024) := Lib.hid ho.f2
  have HCH : Hid (Sp.chkErr p.ns p.es p.mn p.mn = 0) := by
    show _ = _
    unfold Sp.chkErr
    rw [if_neg (not_not_intro ho.sup), if_neg (by omega)]
  clear hG hF hS ho hL hmain
  go_enter Try.func35, Try.ntmps35
  go_upto_region 1 with fail
  refine wp_named (fun W => ∃ b0 b1, w.heap.size = b0 ∧ w.heap.size + 1 = b1 ∧ Blk W b0 [.slice A1 n1 c1, .slice A2 n2 c2, .int .i64 p.mn, .int .i64 p.F, .slice A3 n3 c3, .slice A4 n4 c4] ∧ Blk W b1 [.slice none 0 0, .slice none 0 0] ∧ Below w.heap.size w W) ⟨_, _, rfl, rfl, ?_, ?_, ?_⟩ ?_
  · exact (Blk.new _ _ _ _ (by first | rfl | simp)).alloc _
  · exact Blk.new _ _ _ _ (by first | rfl | simp)
  · go_grown
  rintro W ⟨b0, b1, e0, e1, B0, B1, hB⟩
  rw [e1, e0]
  have G0 : w.heap.size ≤ b0 := by omega
  have n01 : b0 ≠ b1 := by omega
  have G1 : w.heap.size ≤ b1 := by omega
  have n10 : b1 ≠ b0 := by omega
  clear e0 e1
  have ⟨L0, C0, F0⟩ := B0
  have ⟨L1, C1, F1⟩ := B1
  go_upto_region 2 with fail
  refine wp_named (fun V => ∃ g, W.heap.size = g ∧ Blk V g [.slice none 0 0, .slice none 0 0] ∧ Kept [] W V) ⟨_, rfl, Blk.new _ _ _ _ rfl, (Kept.refl _ _).alloc _⟩ ?_
  rintro V ⟨g, eg, Bg, hkV⟩
  rw [eg]
  have hgV : g < V.heap.size := Bg.1
  have hb0g : b0 ≠ g := by omega
  have hb1g : b1 ≠ g := by omega
  have hgw : w.heap.size ≤ g := by have := hB.size; omega
  have B0V := hkV.blk (by simp) B0
  have B1V := hkV.blk (by simp) B1
  have hwV : Kept [] w V := ((Kept.refl [] w).call hB).next hkV (by simp)
  have HBg := Lib.hid Bg
  clear C0 F0 C1 F1 eg Bg
  go_wp2_with fail
  -- MARK1
  go_loopw [7] (fun s7 wr => ∃ (n : Nat) (A : Option Addr) (cA : Nat) (B : Option Addr) (cB : Nat), n ≤ n1 ∧ s7 = .int .i64 n ∧ Kept [g] V wr ∧ Hid (Blk wr g [.slice A n cA, .slice B n cB]) ∧ Hid (wr.ownsRow V.heap.size 4 1 (.slice A n cA) n (List.replicate n (.bool false))) ∧ Hid (wr.ownsRow V.heap.size 26 1 (.slice B n cB) n (List.replicate n (.slice none 0 0)))) (fun s7 _ => n1 - (intOf s7).toNat)
  case atStart => exact ⟨0, none, 0, none, 0, Nat.zero_le _, rfl, Kept.refl _ _, HBg, Lib.hid (World.ownsRow_nil _ _ _ _), Lib.hid (World.ownsRow_nil _ _ _ _)⟩
  case round =>
  clear HBg
  obtain ⟨n, A, cA, B, cB, hn, rfl, hkr, BG, ownA, ownB⟩ := hrel
  have BR0 := hkr.blk (by simpa using hb0g) B0V
  have BR1 := hkr.blk (by simpa using hb1g) B1V
  have ⟨L0r, C0r, F0r⟩ := BR0
  have ⟨LGr, CGr, FGr⟩ := BG.out
  have hsz := hkr.size
  by_cases hlt : n < n1
  case pos =>
    have hn9 : (n : Int) < (n1 : Int) := by omega
    have HAB : Hid (List.replicate n (Value.bool false) ++ [Value.bool false] = List.replicate (n + 1) (Value.bool false)) := Lib.hid (List.replicate_succ'.symm)
    have HAB2 : Hid (List.replicate n (Value.slice none 0 0) ++ [Value.slice none 0 0] = List.replicate (n + 1) (Value.slice none 0 0)) := Lib.hid (List.replicate_succ'.symm)
    have HXA : Hid (∀ y ∈ (Value.slice A n cA).ownBlock.toList, V.heap.size ≤ y) := (fun y hy => own_ge ownA.out (by simpa using hy))
    have xg : g ∉ (Value.slice A n cA).ownBlock.toList := fun hm => by have := HXA.out g hm; omega
    have hbA : ∀ b t, Tag wr b t → t ≠ 4 → b ∉ (Value.slice A n cA).ownBlock.toList := fun b t hb ht hm => by
      have h1 : (Value.slice A n cA).ownBlock = some b := by simpa using hm
      exact absurd rfl (hb.ne (own_tag ownA.out h1) ht)
    have HBA := Lib.hid hbA
    clear hlt hbA
    go_upto_region 6 with (at_builtin; refine wpList_append_rd _ rfl _ _ 29 rfl V.heap.size 4 i0 (.bool false) 1 1 Try.underlying29 hinf0 hz0 hz1 hz2 rfl (by decide) (.slice A n cA) n _ rfl (own_keptT (X := []) ownA.out ((Kept.refl _ _).alloc _) (by simp)) (some ⟨wr.heap.size, 0, none⟩) 1 1 [.bool false] rfl (Rd.new1 _ _ _ _ rfl) (fun h => by cases h) (by intro u hu; simp at hu; subst hu; rfl) (n + 1) rfl _ HAB.out (by unfold maxLen; omega) (by omega) (by simp; omega) ?_; intro A9 c9 w4 hown4 hk4 hat4; have hkA : Kept (Value.slice A n cA).ownBlock.toList wr w4 := ((Kept.refl _ wr).alloc _).next hk4 (fun y hy => Or.inl hy); have ⟨LG4, CG4, FG4⟩ := hkA.blk xg BG.out; have HO4 := Lib.hid hown4; have HKA := Lib.hid hkA; clear hown4 hk4 hat4)
    have hks : Kept [g] w4 (w4.setCell ⟨g, 0, none⟩ (.slice A9 (n + 1) c9)) := (Kept.refl [g] w4).set g 0 _ (.inl (by simp))
    have hkS : Kept (g :: (Value.slice A n cA).ownBlock.toList) wr (w4.setCell ⟨g, 0, none⟩ (.slice A9 (n + 1) c9)) := (keptWide HKA.out (fun x hx => List.mem_cons_of_mem _ hx)).next hks (fun y hy => .inl (by rw [List.mem_singleton] at hy; simp [hy]))
    refine wp_named (fun Z => Kept (g :: (Value.slice A n cA).ownBlock.toList) wr Z ∧ Blk Z g [.slice A9 (n + 1) c9, .slice B n cB] ∧ Z.ownsRow V.heap.size 4 1 (.slice A9 (n + 1) c9) (n + 1) (List.replicate (n + 1) (.bool false)) ∧ Z.ownsRow V.heap.size 26 1 (.slice B n cB) n (List.replicate n (.slice none 0 0))) ⟨hkS, (HKA.out.blk xg BG.out).set 0 _, ?_, ?_⟩ ?_
    · exact own_keptT (X := [g]) HO4.out hks (fun y hy => by have := own_ge HO4.out hy; simp; omega)
    · exact own_keptT ownB.out hkS (fun y hy hm => by
        rcases List.mem_cons.1 hm with rfl | hm
        · have := own_ge ownB.out hy; omega
        · exact HBA.out y _ (own_tag ownB.out hy) (by decide) hm)
    rintro Z ⟨hkZ, BGZ, hA9, hBZ⟩
    have hkVZ : Kept [g] V Z := hkr.next hkZ (fun y hy => by
      rcases List.mem_cons.1 hy with rfl | hy
      · exact .inl (by simp)
      · exact .inr (HXA.out y hy))
    have ⟨L0Z, C0Z, F0Z⟩ := hkVZ.blk (by simpa using hb0g) B0V
    have ⟨LGZ, CGZ, FGZ⟩ := BGZ
    have OA9 := Lib.hid hA9
    have OBZ := Lib.hid hBZ
    have HBGZ := Lib.hid BGZ
    have hszZ := hkVZ.size
    have HXB : Hid (∀ y ∈ (Value.slice B n cB).ownBlock.toList, V.heap.size ≤ y) := (fun y hy => own_ge OBZ.out (by simpa using hy))
    have xgB : g ∉ (Value.slice B n cB).ownBlock.toList := fun hm => by have := HXB.out g hm; omega
    have HTB : Hid (∀ b t, Tag Z b t → t ≠ 26 → b ∉ (Value.slice B n cB).ownBlock.toList) := Lib.hid (fun b t hb ht hm => by
      have h1 : (Value.slice B n cB).ownBlock = some b := by simpa using hm
      exact absurd rfl (hb.ne (own_tag OBZ.out h1) ht))
    clear C0r F0r CGr FGr LG4 CG4 FG4 hA9 hBZ hkZ hks hkS HO4 HKA ownA ownB BG BGZ HBA
    go_wp2_with (at_builtin; refine wpList_append_rd _ rfl _ _ 41 rfl V.heap.size 26 i2 (.slice none 0 0) 1 24 Try.underlying41 hinf2 hx0 hx1 hx2 rfl (by decide) (.slice B n cB) n _ rfl (own_keptT (X := []) OBZ.out ((Kept.refl _ _).alloc _) (by simp)) (some ⟨Z.heap.size, 0, none⟩) 1 1 [.slice none 0 0] rfl (Rd.new1 _ _ _ _ rfl) (fun h => by cases h) (by intro u hu; simp at hu; subst hu; rfl) (n + 1) rfl _ HAB2.out (by unfold maxLen; omega) (by omega) (by simp; omega) ?_; intro A8 c8 w8 hown8 hk8 hat8; have hkB : Kept (Value.slice B n cB).ownBlock.toList Z w8 := ((Kept.refl _ Z).alloc _).next hk8 (fun y hy => Or.inl hy); have ⟨LG8, CG8, FG8⟩ := hkB.blk xgB HBGZ.out; have HO8 := Lib.hid hown8; have HKB := Lib.hid hkB; clear hown8 hk8 hat8)
    have hks : Kept [g] w8 (w8.setCell ⟨g, 1, none⟩ (.slice A8 (n + 1) c8)) := (Kept.refl [g] w8).set g 1 _ (.inl (by simp))
    have OA2 := own_keptT (own_keptT OA9.out HKB.out (fun y hy => HTB.out y _ (own_tag OA9.out hy) (by decide))) hks (fun y hy => by have := own_ge OA9.out hy; simp; omega)
    have OB2 := own_keptT HO8.out hks (fun y hy => by have := own_ge HO8.out hy; simp; omega)
    exact ⟨⟨n + 1, A9, c9, A8, c8, by omega, by go_num, (hkVZ.next HKB.out (fun y hy => Or.inr (HXB.out y hy))).next hks (fun y hy => Or.inl hy), Lib.hid ((HKB.out.blk xgB HBGZ.out).set 1 _), Lib.hid OA2, Lib.hid OB2⟩, by simp [intOf]; omega⟩
  -- MARK2
  obtain rfl : n = n1 := by omega
  have hwr : Kept [] w wr := kept_fresh hwV hkr (by simpa using hgw)
  obtain ⟨ga, gb, rfl, rfl, hga, hgb, hsh⟩ := ShM.start hn1p ownA.out ownB.out
  clear hlt ownA ownB
  have hwk : w.heap.size ≤ wr.heap.size := hwr.size
  have hk2000 : ((2000 : Nat) : Int) = 2000 := rfl
  go_upto_region 8 with (go_at_call 82; refine (rall_any A1 A2 n c1 n2 c2 p.mn p.mn K 2000 p.ns p.es _ (HG.out.later hwr.toBelow) HCH.out (by omega) (by omega)).mono ?_; rintro e w5 ⟨Ax, cx, m, hm, rfl, hpx, hb5⟩; have HM0 := Lib.hid hm; have HPX := Lib.hid hpx; clear hm hpx)
  have HM : Hid (m = L.length) := Lib.hid (by rw [HM0.out, HL.out])
  have hk5 : Kept [] wr w5 := (Kept.refl _ _).call hb5
  have HSH5 := Lib.hid (hsh.kept hk5)
  have HLR5 : Hid (LRA wr.heap.size w5 Ax L) := Lib.hid (fun h0 => by
    obtain ⟨b, o, e, hge, hl, hc⟩ := HPX.out (by rw [HM.out]; exact h0)
    rw [HL.out] at hc
    exact ⟨b, o, e, hge, hl, fun i l hi => by obtain ⟨Ai, ni, ci, h1, h2⟩ := hc i l hi; exact ⟨Ai, ni, ci, h1, h2.1⟩⟩)
  have hm2 : m ≤ 2000 := by rw [HM.out]; exact hLlen
  have hkV5 : Kept [g] V w5 := hkr.next hk5 (by simp)
  have hkw5 : Kept [] w w5 := keptTrans hwr hk5
  have B05 := hk5.blk (by simp) BR0
  have B15 := hk5.blk (by simp) BR1
  have BG5 := hk5.blk (by simp) BG.out
  have ⟨L05, C05, F05⟩ := B05
  have ⟨LG5, CG5, FG5⟩ := BG5
  have hgal := hsh.la
  have hgbl := hsh.lb
  have x0a : b0 ≠ ga := by have := B0V.1; omega
  have x0b : b0 ≠ gb := by have := B0V.1; omega
  have x1a : b1 ≠ ga := by have := B1V.1; omega
  have x1b : b1 ≠ gb := by have := B1V.1; omega
  have xga : g ≠ ga := by omega
  have xgb : g ≠ gb := by omega
  have hwa : w.heap.size ≤ ga := by have := hwV.size; omega
  have hwb : w.heap.size ≤ gb := by have := hwV.size; omega
  clear C0r F0r CGr FGr BG hsh
  go_wp2_with fail
  -- MARK3
  go_loopw [10] (fun s10 wq => ∃ (i : Nat), i ≤ m ∧ s10 = .int .i64 i ∧ Kept [ga, gb] w5 wq ∧ Hid (ShM wq ga gb n (shS p (L.take i))) ∧ Hid (LRA wr.heap.size wq Ax L)) (fun s10 _ => m - (intOf s10).toNat)
  case atStart => exact ⟨0, Nat.zero_le _, rfl, Kept.refl _ _, HSH5, HLR5⟩
  case round =>
  clear C05 F05 CG5 FG5
  rename World => wq
  obtain ⟨i, hi, rfl, hkq, SHq, LRq⟩ := hrel
  have B0q := hkq.blk (by simp [x0a, x0b]) B05
  have B1q := hkq.blk (by simp [x1a, x1b]) B15
  have BGq := hkq.blk (by simp [xga, xgb]) BG5
  have ⟨L0q, C0q, F0q⟩ := B0q
  have ⟨LGq, CGq, FGq⟩ := BGq
  have hkwq : Kept [] w wq := kept_fresh hkw5 hkq (by simp [hwa, hwb])
  by_cases hlt : i < m
  case neg =>
    obtain rfl : i = m := by omega
    have ⟨L1q, C1q, F1q⟩ := B1q
    have HTK : Hid (L.take i = L) := Lib.hid (List.take_of_length_le (by rw [← HM.out]; exact Nat.le_refl _))
    rw [HTK.out] at SHq
    clear hlt
    go_wp2_with fail
    refine retNamedT (fun Y => Blk Y b1 [.slice (some ⟨ga, 0, none⟩) n cA, .slice (some ⟨gb, 0, none⟩) n cB] ∧ Kept [b1] wq Y ∧ ShM Y ga gb n (shS p L)) ⟨(B1q.set 0 _).set 1 _, ((Kept.refl [b1] wq).set b1 0 _ (.inl (by simp))).set b1 1 _ (.inl (by simp)), ?_⟩ ?_
    · have h1 := SHq.out.setO (v := .slice (some ⟨ga, 0, none⟩) n cA) (u := .slice none 0 0) (C1q 0) (by simp) x1a x1b
      exact h1.setO (u := .slice none 0 0) ((B1q.set 0 _).2.1 1) (by simp) x1a x1b
    rintro Y ⟨BY, hkY, hsY⟩
    have ⟨LY, CY, FY⟩ := BY
    refine bodyPost_ret (by simp [results, Try.results35, go_sem, CY]; try rfl) rfl ?_
    refine ⟨_, cA, _, cB, i, HM.out, rfl, hsY.bls, hsY.intsR (fun x hx => ?_), (kept_fresh hkwq hkY (by simpa using G1)).toBelow⟩
    have := shS_len HO.out HRUN.out x
    have := HFN.out
    omega
  -- MARK4
  obtain ⟨l, hl⟩ : ∃ l, L[i]? = some l := ⟨_, List.getElem?_eq_getElem (by rw [← HM.out]; exact hlt)⟩
  have hmem := List.mem_of_getElem? hl
  have HRL := Lib.hid (HRUN.out l hmem)
  have HLL := Lib.hid (HLP.out l hmem)
  have HPI := Lib.hid (run_in l HRL.out)
  have hend := endS_rng HO.out HRL.out
  obtain ⟨nd, hnd⟩ := Int.eq_ofNat_of_zero_le hend.1
  have hndn : nd < n := by have := HNL.out; omega
  have HND : Hid (endS p.es p.mn l = (nd : Int)) := Lib.hid hnd
  have HTK : Hid (shS p (L.take (i + 1)) = shStep p (shS p (L.take i)) l) := Lib.hid (by rw [Sp.take_snoc hl, shS_snoc])
  obtain ⟨bP, oP, rfl, hgeP, hlP, hcP⟩ := LRq.out (by rw [← HM.out]; omega)
  obtain ⟨Ai, ni, ci, hrP, hiP⟩ := hcP i l hl
  have HIP := Lib.hid hiP
  have hni : ni ≤ 100 := by have := hiP.1; have := HLL.out; omega
  have hi9 : (i : Int) < (m : Int) := by omega
  have HSUB : Hid (∀ l ∈ L.take i, (Sp.runS p.es p.mn [] l).1 = 0) := Lib.hid (fun l hl => HRUN.out l (List.mem_of_mem_take hl))
  have HLI := Lib.hid hl
  clear hcP hl hend hnd hmem hiP
  go_upto_region 11 with fail
  refine wp_region_E 7 (fun w' => SX0 wq w') (by kernel_rfl) (by (repeat' first | (with_reducible assumption) | (with_reducible exact SX0.init _) | (with_reducible exact SX0.refl _) | (with_reducible refine SX0.alloc ?_ _) | (with_reducible refine SX0.call ?_ (by assumption)) | (with_reducible refine SX0.set ?_ _ _ _ ?_) | (with_reducible refine SX0.drew ?_) | (simp; done) | omega | (simp; omega))) (fun hHeld => ?_)
  refine WE_take 0 (v := ?_) rfl (by kernel_rfl) (fun _ _ _ h => h) (Or.inl ⟨by rfl, ?_⟩) (by assumption) ?_; rotate_left; (· intro w9 hSw; (try dsimp only at hSw); go_simp; try with_reducible rfl); (try simp only [Act.put, List.setIfInBounds_toArray, List.set_cons_zero, List.set_cons_succ])
  refine WE_take 1 (v := ?_) rfl (by kernel_rfl) (fun _ _ _ h => h) (Or.inl ⟨by rfl, ?_⟩) (by assumption) ?_; rotate_left; (· intro w9 hSw; (try dsimp only at hSw); go_simp; try with_reducible rfl); (try simp only [Act.put, List.setIfInBounds_toArray, List.set_cons_zero, List.set_cons_succ])
  refine WE_take 2 (v := ?_) rfl (by kernel_rfl) (fun _ _ _ h => h) (Or.inl ⟨by rfl, ?_⟩) (by assumption) ?_; rotate_left; (· intro w9 hSw; (try dsimp only at hSw); go_simp; try with_reducible rfl); (try simp only [Act.put, List.setIfInBounds_toArray, List.set_cons_zero, List.set_cons_succ])
  refine WE_take 3 (v := ?_) rfl (by kernel_rfl) (fun _ _ _ h => h) (Or.inl ⟨by rfl, ?_⟩) (by assumption) ?_; rotate_left; (· intro w9 hSw; (try dsimp only at hSw); go_simp; try with_reducible rfl); (try simp only [Act.put, List.setIfInBounds_toArray, List.set_cons_zero, List.set_cons_succ])
  refine WE_take 4 (v := ?_) rfl (by kernel_rfl) (fun _ _ _ h => h) (Or.inl ⟨by rfl, ?_⟩) (by assumption) ?_; rotate_left; (· intro w9 hSw; (try dsimp only at hSw); go_simp; try with_reducible rfl); (try simp only [Act.put, List.setIfInBounds_toArray, List.set_cons_zero, List.set_cons_succ])
  refine WE_take 5 (v := ?_) rfl (by kernel_rfl) (fun _ _ _ h => h) (Or.inl ⟨by rfl, ?_⟩) (by assumption) ?_; rotate_left; (· intro w9 hSw; (try dsimp only at hSw); go_simp; try with_reducible rfl); (try simp only [Act.put, List.setIfInBounds_toArray, List.set_cons_zero, List.set_cons_succ])
  refine WE_step 6 rfl (by kernel_rfl) (fun K hK => ?_)
  go_simp
  (go_at_call 34; refine (rends_any A1 A2 Ai n c1 n2 c2 ni ci p.mn p.es l _ (HG.out.ed.later (hkwq.drew).toBelow) (HIP.out.kept ((Kept.refl [] _).drew)) HPI.out (by have := HLL.out; omega) nd HND.out).mono ?_; rintro e w6 ⟨rfl, hb6⟩)
  (try go_wp2_with fail)
  refine hK.out _ _ ?_ (fun hHeld => ?_)
  · (repeat' first | (with_reducible assumption) | (with_reducible exact SX0.init _) | (with_reducible exact SX0.refl _) | (with_reducible refine SX0.alloc ?_ _) | (with_reducible refine SX0.call ?_ (by assumption)) | (with_reducible refine SX0.set ?_ _ _ _ ?_) | (with_reducible refine SX0.drew ?_) | (simp; done) | omega | (simp; omega))
  clear hK K
  try simp only [Act.put, List.setIfInBounds_toArray, List.set_cons_zero, List.set_cons_succ]
  refine WE_last rfl (by kernel_rfl) (fun K hK => ?_)
  go_simp
  refine hK.out _ _ ?_
  clear hK K
  have hk6 : Kept [] wq w6 := hHeld.1
  have hsh6 := SHq.out.kept hk6
  have B06 := hk6.blk (by simp) B0q
  have BG6 := hk6.blk (by simp) BGq
  have ⟨L06, C06, F06⟩ := B06
  have ⟨LG6, CG6, FG6⟩ := BG6
  have cA6 := hsh6.ca nd hndn
  have fA6 := hsh6.fa nd
  have lA6 := hsh6.la
  have hnd9 : (nd : Int) < (n : Int) := by omega
  have HSH6 := Lib.hid hsh6
  have HLR6 := Lib.hid (LRq.out.kept hk6)
  clear C0q F0q CGq FGq hHeld hsh6
  -- MARK5
  go_upto_region 13 with fail
  refine wp_named (fun Z => Kept [ga, gb] w5 Z ∧ ShM Z ga gb n (fun x => if x = nd then true else (shS p (L.take i)).1 x, (shS p (L.take i)).2) ∧ LRA wr.heap.size Z (some ⟨bP, oP, none⟩) L) ⟨?_, HSH6.out.setR hndn, HLR6.out.set (by omega) (HSH6.out.ca nd hndn) (by simp)⟩ ?_
  · exact (hkq.next hk6 (by simp)).set _ _ _ (.inl (by simp))
  rintro Z ⟨hkZ, hsZ, hlZ⟩
  have B0Z := hkZ.blk (by simp [x0a, x0b]) B05
  have BGZ := hkZ.blk (by simp [xga, xgb]) BG5
  have ⟨L0Z, C0Z, F0Z⟩ := B0Z
  have ⟨LGZ, CGZ, FGZ⟩ := BGZ
  have hkwZ : Kept [] w Z := kept_fresh hkw5 hkZ (by simp [hwa, hwb])
  obtain ⟨Af, nf, cf, hcf, hif, hnf⟩ := hsZ.cb nd hndn
  have HIF := Lib.hid hif
  have hnf9 : nf ≤ 1024 := by
    have h1 := hif.1
    have h2 := shS_len HO.out HSUB.out nd
    have h3 := HFN.out
    dsimp only at h1
    omega
  have fB := hsZ.fb nd
  have lBZ := hsZ.lb
  obtain ⟨bP2, oP2, e2, hgeP2, hlP2, hcP2⟩ := hlZ (by rw [← HM.out]; omega)
  have HSZ := Lib.hid hsZ
  have HLZ := Lib.hid hlZ
  injection e2 with e2
  injection e2 with e3 e4 _
  subst e3 e4
  obtain ⟨Aj, nj, cj, hrZ, hiZ⟩ := hcP2 i l HLI.out
  have HIZ := Lib.hid hiZ
  have hnj : nj ≤ 100 := by have := hiZ.1; have := HLL.out; omega
  have HAL : Hid ((alongF p l).length ≤ 1024) := Lib.hid (by have := alongF_short HO.out HRL.out; have := HFN.out; omega)
  have HTK2 : Hid (shS p (L.take (i + 1)) = (fun x => if x = nd then true else (shS p (L.take i)).1 x, fun x => if x = nd then joinF ((shS p (L.take i)).2 nd) (alongF p l) else (shS p (L.take i)).2 x)) := Lib.hid (by
    rw [HTK.out]
    unfold shStep
    rw [HND.out, Int.toNat_natCast]
    congr 1
    funext x
    by_cases e : x = nd
    · subst e; rfl
    · simp [e])
  clear C06 F06 CG6 FG6 cA6 fA6 lA6 hif hsZ hlZ hcP2 hrP hiZ hlt
  -- MARK6
  refine wp_region_E 16 (fun w' => SX0 Z w') (by kernel_rfl) (by (repeat' first | (with_reducible assumption) | (with_reducible exact SX0.init _) | (with_reducible exact SX0.refl _) | (with_reducible refine SX0.alloc ?_ _) | (with_reducible refine SX0.call ?_ (by assumption)) | (with_reducible refine SX0.set ?_ _ _ _ ?_) | (with_reducible refine SX0.drew ?_) | (simp; done) | omega | (simp; omega))) (fun hHeld => ?_)
  refine WE_take 0 (v := ?_) rfl (by kernel_rfl) (fun _ _ _ h => h) (Or.inl ⟨by rfl, ?_⟩) (by assumption) ?_; rotate_left; (· intro w9 hSw; (try dsimp only at hSw); go_simp; try with_reducible rfl); (try simp only [Act.put, List.setIfInBounds_toArray, List.set_cons_zero, List.set_cons_succ])
  refine WE_take 1 (v := ?_) rfl (by kernel_rfl) (fun _ _ _ h => h) (Or.inl ⟨by rfl, ?_⟩) (by assumption) ?_; rotate_left; (· intro w9 hSw; (try dsimp only at hSw); go_simp; try with_reducible rfl); (try simp only [Act.put, List.setIfInBounds_toArray, List.set_cons_zero, List.set_cons_succ])
  refine WE_take 2 (v := ?_) rfl (by kernel_rfl) (fun _ _ _ h => h) (Or.inl ⟨by rfl, ?_⟩) (by assumption) ?_; rotate_left; (· intro w9 hSw; (try dsimp only at hSw); go_simp; try with_reducible rfl); (try simp only [Act.put, List.setIfInBounds_toArray, List.set_cons_zero, List.set_cons_succ])
  refine WE_take 3 (v := ?_) rfl (by kernel_rfl) (fun _ _ _ h => h) (Or.inl ⟨by rfl, ?_⟩) (by assumption) ?_; rotate_left; (· intro w9 hSw; (try dsimp only at hSw); go_simp; try with_reducible rfl); (try simp only [Act.put, List.setIfInBounds_toArray, List.set_cons_zero, List.set_cons_succ])
  refine WE_take 4 (v := ?_) rfl (by kernel_rfl) (fun _ _ _ h => h) (Or.inl ⟨by rfl, ?_⟩) (by assumption) ?_; rotate_left; (· intro w9 hSw; (try dsimp only at hSw); go_simp; try with_reducible rfl); (try simp only [Act.put, List.setIfInBounds_toArray, List.set_cons_zero, List.set_cons_succ])
  refine WE_take 5 (v := ?_) rfl (by kernel_rfl) (fun _ _ _ h => h) (Or.inl ⟨by rfl, ?_⟩) (by assumption) ?_; rotate_left; (· intro w9 hSw; (try dsimp only at hSw); go_simp; try with_reducible rfl); (try simp only [Act.put, List.setIfInBounds_toArray, List.set_cons_zero, List.set_cons_succ])
  refine WE_take 6 (v := ?_) rfl (by kernel_rfl) (fun _ _ _ h => h) (Or.inl ⟨by rfl, ?_⟩) (by assumption) ?_; rotate_left; (· intro w9 hSw; (try dsimp only at hSw); go_simp; try with_reducible rfl); (try simp only [Act.put, List.setIfInBounds_toArray, List.set_cons_zero, List.set_cons_succ])
  refine WE_take 7 (v := ?_) rfl (by kernel_rfl) (fun _ _ _ h => h) (Or.inl ⟨by rfl, ?_⟩) (by assumption) ?_; rotate_left; (· intro w9 hSw; (try dsimp only at hSw); go_simp; try with_reducible rfl); (try simp only [Act.put, List.setIfInBounds_toArray, List.set_cons_zero, List.set_cons_succ])
  refine WE_take 8 (v := ?_) rfl (by kernel_rfl) (fun _ _ _ h => h) (Or.inl ⟨by rfl, ?_⟩) (by assumption) ?_; rotate_left; (· intro w9 hSw; (try dsimp only at hSw); go_simp; try with_reducible rfl); (try simp only [Act.put, List.setIfInBounds_toArray, List.set_cons_zero, List.set_cons_succ])
  refine WE_take 9 (v := ?_) rfl (by kernel_rfl) (fun _ _ _ h => h) (Or.inl ⟨by rfl, ?_⟩) (by assumption) ?_; rotate_left; (· intro w9 hSw; (try dsimp only at hSw); go_simp; try with_reducible rfl); (try simp only [Act.put, List.setIfInBounds_toArray, List.set_cons_zero, List.set_cons_succ])
  refine WE_take 10 (v := ?_) rfl (by kernel_rfl) (fun _ _ _ h => h) (Or.inl ⟨by rfl, ?_⟩) (by assumption) ?_; rotate_left; (· intro w9 hSw; (try dsimp only at hSw); go_simp; try with_reducible rfl); (try simp only [Act.put, List.setIfInBounds_toArray, List.set_cons_zero, List.set_cons_succ])
  refine WE_take 11 (v := ?_) rfl (by kernel_rfl) (fun _ _ _ h => h) (Or.inl ⟨by rfl, ?_⟩) (by assumption) ?_; rotate_left; (· intro w9 hSw; (try dsimp only at hSw); go_simp; try with_reducible rfl); (try simp only [Act.put, List.setIfInBounds_toArray, List.set_cons_zero, List.set_cons_succ])
  refine WE_take 12 (v := ?_) rfl (by kernel_rfl) (fun _ _ _ h => h) (Or.inl ⟨by rfl, ?_⟩) (by assumption) ?_; rotate_left; (· intro w9 hSw; (try dsimp only at hSw); go_simp; try with_reducible rfl); (try simp only [Act.put, List.setIfInBounds_toArray, List.set_cons_zero, List.set_cons_succ])
  refine WE_step 13 rfl (by kernel_rfl) (fun K hK => ?_)
  go_simp
  (first | (go_at_call 33; refine (rwalk_any A1 A2 A3 A4 Aj n c1 n2 c2 n3 c3 n4 c4 nj cj p.mn p.F p.ns p.es p.fl p.sd l _ (HG.out.ed.later (keptTrans hkwZ hHeld.1).toBelow) (HF.out.later (keptTrans hkwZ hHeld.1).toBelow) (HS.out.later (keptTrans hkwZ hHeld.1).toBelow) (HIZ.out.kept hHeld.1) (by omega) HO.out (by have := HLL.out; omega) HPI.out).mono ?_; rintro e w7 ⟨A7, n7, c7, rfl, hi7, hc7, hb7⟩; have HI7 := Lib.hid hi7; clear hi7) | (go_at_call 79; refine (rjoin30_any Af A7 nf cf n7 c7 _ _ _ (HIF.out.kept hHeld.1) HI7.out (by omega) (by have h1 : (alongF p l).length = n7 := HI7.out.1; have := HAL.out; omega)).mono ?_; rintro e w8 ⟨A8, n8, c8, rfl, hi8, hc8, hb8⟩; have HI8 := Lib.hid hi8; clear hi8))
  (try go_wp2_with fail)
  refine hK.out _ _ ?_ (fun hHeld => ?_)
  · (repeat' first | (with_reducible assumption) | (with_reducible exact SX0.init _) | (with_reducible exact SX0.refl _) | (with_reducible refine SX0.alloc ?_ _) | (with_reducible refine SX0.call ?_ (by assumption)) | (with_reducible refine SX0.set ?_ _ _ _ ?_) | (with_reducible refine SX0.drew ?_) | (simp; done) | omega | (simp; omega))
  clear hK K
  try simp only [Act.put, List.setIfInBounds_toArray, List.set_cons_zero, List.set_cons_succ]
  refine WE_step 14 rfl (by kernel_rfl) (fun K hK => ?_)
  go_simp
  (first | (go_at_call 33; refine (rwalk_any A1 A2 A3 A4 Aj n c1 n2 c2 n3 c3 n4 c4 nj cj p.mn p.F p.ns p.es p.fl p.sd l _ (HG.out.ed.later (keptTrans hkwZ hHeld.1).toBelow) (HF.out.later (keptTrans hkwZ hHeld.1).toBelow) (HS.out.later (keptTrans hkwZ hHeld.1).toBelow) (HIZ.out.kept hHeld.1) (by omega) HO.out (by have := HLL.out; omega) HPI.out).mono ?_; rintro e w7 ⟨A7, n7, c7, rfl, hi7, hc7, hb7⟩; have HI7 := Lib.hid hi7; clear hi7) | (go_at_call 79; refine (rjoin30_any Af A7 nf cf n7 c7 _ _ _ (HIF.out.kept hHeld.1) HI7.out (by omega) (by have h1 : (alongF p l).length = n7 := HI7.out.1; have := HAL.out; omega)).mono ?_; rintro e w8 ⟨A8, n8, c8, rfl, hi8, hc8, hb8⟩; have HI8 := Lib.hid hi8; clear hi8))
  (try go_wp2_with fail)
  refine hK.out _ _ ?_ (fun hHeld => ?_)
  · (repeat' first | (with_reducible assumption) | (with_reducible exact SX0.init _) | (with_reducible exact SX0.refl _) | (with_reducible refine SX0.alloc ?_ _) | (with_reducible refine SX0.call ?_ (by assumption)) | (with_reducible refine SX0.set ?_ _ _ _ ?_) | (with_reducible refine SX0.drew ?_) | (simp; done) | omega | (simp; omega))
  clear hK K
  try simp only [Act.put, List.setIfInBounds_toArray, List.set_cons_zero, List.set_cons_succ]
  refine WE_take 15 (v := ?_) rfl (by kernel_rfl) (fun _ _ _ h => h) (Or.inl ⟨by rfl, ?_⟩) (by assumption) ?_; rotate_left; (· intro w9 hSw; (try dsimp only at hSw); go_simp; try with_reducible rfl); (try simp only [Act.put, List.setIfInBounds_toArray, List.set_cons_zero, List.set_cons_succ])
  refine WE_last rfl (by kernel_rfl) (fun K hK => ?_)
  go_simp
  refine hK.out _ _ ?_
  clear hK K
  have hk8 : Kept [] Z w8 := hHeld.1
  have hs8 := HSZ.out.kept hk8
  obtain ⟨Ag, ng, cg, hcg, -, -⟩ := hs8.cb nd hndn
  have HS9 := Lib.hid (hs8.setF hndn HI8.out hc8)
  have HL9 := Lib.hid ((HLZ.out.kept hk8).set (k := nd) (v := .slice A8 n8 c8) hgbl hcg (by simp))
  have hk9 : Kept [ga, gb] w5 (w8.setCell ⟨gb, nd, none⟩ (.slice A8 n8 c8)) := (hkZ.next hk8 (by simp)).set _ _ _ (.inl (by simp))
  clear hs8 hcg
  go_wp2_with fail
  -- MARK7
  exact ⟨⟨i + 1, by omega, by go_num, hk9, by rw [HTK2.out]; exact HS9, HL9⟩, by simp [intOf]; omega⟩
end Go.Proofs.Ytffkikhknabddaa
/- The walk of the law IfdsMeet. (Printed by genYl.py.) -/
namespace Go.Proofs.Ytffkikhknabddaa
open Go.RowKit Go.Df Go.Df.If
attribute [local go_sem ↓] Go.wp_at_zero Go.wp_at_succ

set_option maxRecDepth 100000 in
set_option maxHeartbeats 16000000 in
theorem ifdsMeet_any {p : Pb} (A1 A2 A3 A4 A5 : Option Addr) (n1 c1 n2 c2 n3 c3 n4 c4 n5 c5 : Nat) (path : List Int) (w : World) (hG : Gr w A1 n1 A2 n2 p.ns p.es) (hF : Flw w A3 n3 p.fl) (hS : Sds w A4 n4 p.sd) (hP : Ints w A5 n5 path) (hn4 : n4 ≤ 9223372036854775807) :
    Calls Try.prog 8 #[.agg #[.slice A1 n1 c1, .slice A2 n2 c2, .int .i64 p.mn, .int .i64 p.F, .slice A3 n3 c3, .slice A4 n4 c4], .slice A5 n5 c5] w fun e w' => e = .returned (.bool true) ∧ Below w.heap.size w w' := by
  have HG := Lib.hid hG
  have HF := Lib.hid hF
  have HS := Lib.hid hS
  have HP := Lib.hid hP
  obtain ⟨pe, hpe⟩ : ∃ pe, pbErr ⟨p.ns, p.es, p.mn, p.F, p.fl, p.sd⟩ = pe := ⟨_, rfl⟩
  have HPE := Lib.hid hpe
  clear hG hF hS hP hpe
  go_enter Try.func8, Try.ntmps8
  go_upto_region 1 with fail
  refine wp_named (fun W => ∃ b0, w.heap.size = b0 ∧ Blk W b0 [.slice A1 n1 c1, .slice A2 n2 c2, .int .i64 p.mn, .int .i64 p.F, .slice A3 n3 c3, .slice A4 n4 c4] ∧ Below w.heap.size w W) ⟨_, rfl, ?_, ?_⟩ ?_
  · exact Blk.new _ _ _ _ (by first | rfl | simp)
  · go_grown
  rintro W ⟨b0, e0, B0, hB⟩
  rw [e0]
  have G0 : w.heap.size ≤ b0 := by omega
  clear e0
  have ⟨L0, C0, F0⟩ := B0
  go_wp2_with fail
  refine (small30_any A1 A2 A3 A4 n1 c1 n2 c2 n3 c3 n4 c4 p.mn p.F p.fl _ (HF.out.later hB)).mono ?_
  rintro e w1 ⟨⟨b, rfl, hsm⟩, hb1⟩
  have hk1 : Kept [] W w1 := (Kept.refl _ _).call hb1
  have B01 := hk1.blk (by simp) B0
  have ⟨L01, C01, F01⟩ := B01
  have hB1 : Below w.heap.size w w1 := hk1.below hB hB.size (by simp)
  clear C0 F0
  cases b with
  | false =>
    go_wp2_with fail
    go_ret
    exact ⟨rfl, hB1⟩
  | true =>
  have hs := hsm rfl
  have hn20 : n4 ≤ 1000 := by omega
  have hn140 : n1 ≤ 40 := by omega
  have hn380 : n3 ≤ 80 := by omega
  clear hsm hs
  by_cases t5 : 30 < n5
  · have d5 : decide ((30 : Int) < n5) = true := by simp; omega
    go_wp2_with fail
    go_ret
    exact ⟨rfl, hB1⟩
  have d5 : decide ((30 : Int) < n5) = false := by simp; omega
  go_wp2_with fail
  refine (rifdsck_any A1 A2 A3 A4 n1 c1 n2 c2 n3 c3 n4 c4 p.mn p.F p.ns p.es p.fl p.sd _ (HG.out.nd.later hB1) (HG.out.ed.later hB1) (HF.out.later hB1) (HS.out.later hB1) hn4 HG.out.wn HG.out.we).mono ?_
  rw [HPE.out]
  rintro e w2 ⟨rfl, hb2⟩
  have hk12 : Kept [] w1 w2 := (Kept.refl _ _).call hb2
  have B02 := hk12.blk (by simp) B01
  have ⟨L02, C02, F02⟩ := B02
  have hB2 : Below w.heap.size w w2 := hk12.below hB1 hB1.size (by simp)
  clear C01 F01 d5
  by_cases h0 : pe = 0
  case neg =>
    have h0' : (pe != 0) = true := by simpa using h0
    clear h0
    go_wp2_with fail
    go_ret
    exact ⟨rfl, hB2⟩
  subst h0
  have HGW := Lib.hid (HG.out.later hB2)
  have HFW := Lib.hid (HF.out.later hB2)
  have HSW := Lib.hid (HS.out.later hB2)
  have HPB : Hid (pbErr p = 0) := HPE
  have HO := Lib.hid (ok_of HPB.out)
  -- MARK1
  go_upto_region 4 with (go_at_call 28; refine (solve_any A1 A2 A3 A4 n1 c1 n2 c2 n3 c3 n4 c4 _ HGW.out HFW.out HSW.out (by omega) 0 HPB.out rfl).mono ?_; rintro e w3 ⟨S1, S2, n, rfl, hn, hr3, hf3, hb3⟩; obtain rfl : n1 = n := HG.out.nd.1.symm.trans hn.symm; clear hn)
  refine wp_named (fun V => ∃ g, w3.heap.size = g ∧ Blk V g [.slice S1 n1 n1, .slice S2 n1 n1] ∧ Kept [] w3 V) ⟨_, rfl, Blk.new _ _ _ _ rfl, (Kept.refl _ _).alloc _⟩ ?_
  rintro V ⟨g, eg, Bg, hkV⟩
  rw [eg]
  have hk2V : Kept [] w2 V := ((Kept.refl [] w2).call hb3).next hkV (by simp)
  have HR3 := Lib.hid (hr3.later hkV.toBelow)
  have HF3 := Lib.hid (hf3.later hkV.toBelow)
  have B0V := hk2V.blk (by simp) B02
  have ⟨L0V, C0V, F0V⟩ := B0V
  have ⟨LGV, CGV, FGV⟩ := Bg
  have hBV : Below w.heap.size w V := hk2V.below hB2 hB2.size (by simp)
  clear C02 F02 eg hr3 hf3
  obtain ⟨er, fa, cs, hfo⟩ : ∃ er fa cs, Sp.followS p.ns p.es p.mn p.mn path = (er, fa, cs) := ⟨_, _, _, rfl⟩
  have HFO := Lib.hid hfo
  clear hfo
  by_cases h0 : er = 0
  case neg =>
    as_aux_lemma =>
      have z0 : (er == 0) = false := by simpa using h0
      go_upto_region 16 with (go_at_call 19; refine (rcheck_any A1 A2 A5 n1 c1 n2 c2 n5 c5 p.mn p.mn p.ns p.es path _ (HG.out.later hBV) (HP.out.later hBV) er fa cs HFO.out).mono ?_; rintro e w4 ⟨rfl, hb4⟩)
      refine wp_named (fun T => Kept [] V T) ((Kept.refl [] V).call hb4) ?_
      rintro T hkVT
      clear C0V F0V CGV FGV z0 h0
      -- MARK2
      have B0T := hkVT.blk (by simp) B0V
      have BGT := hkVT.blk (by simp) Bg
      have ⟨L0T, C0T, F0T⟩ := B0T
      have hwT : Below w.heap.size w T := hkVT.below hBV hBV.size (by simp)
      obtain ⟨K1, hK1⟩ : ∃ K1, (Sp.itI p.es 2000 p.mn (9 + 1)).1 = K1 := ⟨_, rfl⟩
      obtain ⟨K2, hK2⟩ : ∃ K2, (Sp.itI p.es 2000 p.mn (10 + 1)).1 = K2 := ⟨_, rfl⟩
      have HK1 := Lib.hid hK1
      have HK2 := Lib.hid hK2
      have e9 : ((9 : Nat) : Int) = 9 := rfl
      have e10 : ((10 : Nat) : Int) = 10 := rfl
      clear hK1 hK2
      go_upto_region 17 with (go_at_call 35; refine (rshort_any A1 A2 A3 A4 n1 c1 n2 c2 n3 c3 n4 c4 9 _ (HG.out.later hwT) (HF.out.later hwT) (HS.out.later hwT) (by omega) HO.out (by omega) (by omega) K1 HK1.out).mono ?_; rintro e w5 ⟨S3, d3, S4, d4, m1, hm1, rfl, hr5, hf5, hb5⟩; have HM1 := Lib.hid hm1; clear hm1)
      refine wp_named (fun U => ∃ q, w5.heap.size = q ∧ Blk U q [.slice S3 n1 d3, .slice S4 n1 d4] ∧ Kept [] w5 U) ⟨_, rfl, Blk.new _ _ _ _ rfl, (Kept.refl _ _).alloc _⟩ ?_
      rintro U ⟨q, eq_, Bq, hkU⟩
      rw [eq_]
      have hkTU : Kept [] T U := ((Kept.refl [] T).call hb5).next hkU (by simp)
      have HR5 := Lib.hid (hr5.later hkU.toBelow)
      have HF5 := Lib.hid (hf5.later hkU.toBelow)
      have B0U := hkTU.blk (by simp) B0T
      have BGU := hkTU.blk (by simp) BGT
      have ⟨L0U, C0U, F0U⟩ := B0U
      have hwU : Below w.heap.size w U := hkTU.below hwT hwT.size (by simp)
      have hgq : g ≠ q := by have := BGT.1; have := hb5.size; omega
      clear C0T F0T eq_ hr5 hf5
      go_upto_region 18 with (go_at_call 35; refine (rshort_any A1 A2 A3 A4 n1 c1 n2 c2 n3 c3 n4 c4 10 _ (HG.out.later hwU) (HF.out.later hwU) (HS.out.later hwU) (by omega) HO.out (by omega) (by omega) K2 HK2.out).mono ?_; rintro e w6 ⟨S5, d5, S6, d6, m2, hm2, rfl, hr6, hf6, hb6⟩; have HM2 := Lib.hid hm2; clear hm2)
      refine wp_named (fun Y => Kept [] w6 Y) ((Kept.refl _ _).alloc _) ?_
      rintro Y hkY
      have hkUY : Kept [] U Y := ((Kept.refl [] U).call hb6).next hkY (by simp)
      have BGY := hkUY.blk (by simp) BGU
      have BQY := hkUY.blk (by simp) Bq
      have ⟨LGY, CGY, FGY⟩ := BGY
      have ⟨LQY, CQY, FQY⟩ := BQY
      have hwY : Below w.heap.size w Y := hkUY.below hwU hwU.size (by simp)
      clear C0U F0U hr6 hf6
      by_cases t1 : 2000 ≤ m2
      · have x1 : decide ((2000 : Int) ≤ (m2 : Int)) = true := by simp; omega
        clear t1
        go_wp2_with (go_at_call 26; refine (knows_any _).mono ?_; rintro e w7 ⟨rfl, hb7⟩)
        go_ret
        exact ⟨rfl, ((Kept.refl [] Y).call hb7).below hwY hwY.size (by simp)⟩
      have x1 : decide ((2000 : Int) ≤ (m2 : Int)) = false := by simp; omega
      by_cases t2 : m1 = m2
      case neg =>
        have x2 : ((m1 : Int) != (m2 : Int)) = true := by simp; omega
        have x3 : (m1 != m2) = true := by simpa using t2
        clear t1 t2
        go_wp2_with (go_at_call 26; refine (knows_any _).mono ?_; rintro e w7 ⟨rfl, hb7⟩)
        go_ret
        exact ⟨rfl, ((Kept.refl [] Y).call hb7).below hwY hwY.size (by simp)⟩
      subst t2
      have HMS : Hid (∀ x, (shS p K1).1 x = solR p x ∧ (shS p K1).2 x = solF p x) := Lib.hid (fun x => by
        rw [← HK1.out]
        exact meet_sol HO.out (by rw [HK2.out, ← HM2.out]; omega) (by rw [HK1.out, HK2.out, ← HM1.out, ← HM2.out]) x)
      have HRB : Hid (Bls Y S3 n1 ((List.range n1).map (solR p))) := Lib.hid (by
        have h1 := HR5.out.later hkUY.toBelow
        rwa [List.map_congr_left (fun x _ => (HMS.out x).1)] at h1)
      have HFB : Hid (IntsR Y S4 n1 ((List.range n1).map (solF p))) := Lib.hid (by
        have h1 := HF5.out.later hkUY.toBelow
        rwa [List.map_congr_left (fun x _ => (HMS.out x).2)] at h1)
      have hkVY : Kept [] V Y := keptTrans (keptTrans hkVT hkTU) hkUY
      have HRA := Lib.hid (HR3.out.later hkVY.toBelow)
      have HFA := Lib.hid (HF3.out.later hkVY.toBelow)
      clear t1
      go_wp2_with (first | (go_at_call 30; refine (rsame_eq S1 S2 S3 S4 n1 n1 n1 n1 d3 d4 _ _ _ HRA.out HRB.out HFA.out HFB.out (by omega) (by omega)).mono ?_; rintro e w7 ⟨rfl, hb7⟩) | (go_at_call 26; refine (knows_any _).mono ?_; rintro e w8 ⟨rfl, hb8⟩))
      go_ret
      exact ⟨rfl, (((Kept.refl [] Y).call hb7).call hb8).below hwY hwY.size (by simp)⟩
  subst h0
  as_aux_lemma =>
    -- MARK3
    have hfr := (follow_run (ns := p.ns) (es := p.es) (mn := p.mn) (fr := p.mn) (path := path) (by rw [HFO.out])).2.1
    have HRN := Lib.hid hfr
    have HPI := Lib.hid (run_in path HRN.out)
    have hpl : path.length ≤ 30 := by have := HP.out.1; omega
    have hend := endS_rng HO.out HRN.out
    obtain ⟨nd, hnd⟩ := Int.eq_ofNat_of_zero_le hend.1
    have HND : Hid (endS p.es p.mn path = (nd : Int)) := Lib.hid hnd
    have HH0 : Hid (holdsS ((List.range n1).map (solR p)) ((List.range n1).map (solF p)) (nd : Int) 0 = true) := Lib.hid (by rw [← HND.out]; exact walk_holds HO.out HG.out.nd.1 HRN.out (.inl rfl))
    clear hfr hend hnd
    go_upto_region 8 with (first
      | (go_at_call 19; refine (rcheck_any A1 A2 A5 n1 c1 n2 c2 n5 c5 p.mn p.mn p.ns p.es path _ (HG.out.later hBV) (HP.out.later hBV) 0 fa cs HFO.out).mono ?_; rintro e w4 ⟨rfl, hb4⟩; have hk4 : Kept [] V w4 := (Kept.refl _ _).call hb4; have hw4 : Below w.heap.size w w4 := hk4.below hBV hBV.size (by simp); have ⟨L04, C04, F04⟩ := hk4.blk (by simp) B0V)
      | (go_at_call 33; refine (rwalk_any A1 A2 A3 A4 A5 n1 c1 n2 c2 n3 c3 n4 c4 n5 c5 p.mn p.F p.ns p.es p.fl p.sd path _ (HG.out.ed.later hw4) (HF.out.later hw4) (HS.out.later hw4) (HP.out.later hw4) (by omega) HO.out (by omega) HPI.out).mono ?_; rintro e w5 ⟨Al, m, cl, rfl, hi5, hc5, hb5⟩; have HI5 := Lib.hid hi5; clear hi5))
    have hk5 : Kept [] V w5 := ((Kept.refl [] V).call hb4).call hb5
    have hw5 : Below w.heap.size w w5 := hk5.below hBV hBV.size (by simp)
    have B05 := hk5.blk (by simp) B0V
    have BG5 := hk5.blk (by simp) Bg
    have ⟨L05, C05, F05⟩ := B05
    have ⟨LG5, CG5, FG5⟩ := BG5
    have HR5' := Lib.hid (HR3.out.later hk5.toBelow)
    have HF5' := Lib.hid (HF3.out.later hk5.toBelow)
    clear C0V F0V CGV FGV L04 C04 F04
    go_upto_region 11 with (first
      | (go_at_call 34; refine (rends_any A1 A2 A5 n1 c1 n2 c2 n5 c5 p.mn p.es path _ (HG.out.ed.later hw5) (HP.out.later hw5) HPI.out (by omega) nd HND.out).mono ?_; rintro e w6 ⟨rfl, hb6⟩; have hk56 : Kept [] w5 w6 := (Kept.refl _ _).call hb6; have ⟨L06, C06, F06⟩ := hk56.blk (by simp) B05; have ⟨LG6, CG6, FG6⟩ := hk56.blk (by simp) BG5)
      | (go_at_call 31; refine (holds_any S1 S2 n1 n1 n1 n1 _ _ nd 0 _ (HR5'.out.later hb6) (HF5'.out.later hb6) (by omega) (by omega)).mono ?_; rw [HH0.out]; rintro e w7 ⟨rfl, hb7⟩))
    refine wp_named (fun X => Kept [] w5 X) (((Kept.refl [] w5).call hb6).call hb7) ?_
    rintro X hkX
    have hkVX : Kept [] V X := keptTrans hk5 hkX
    have B0X := hkX.blk (by simp) B05
    have BGX := hkX.blk (by simp) BG5
    have ⟨L0X, C0X, F0X⟩ := B0X
    have ⟨LGX, CGX, FGX⟩ := BGX
    have HIX := Lib.hid (HI5.out.kept hkX)
    have HML := Lib.hid HI5.out.1
    have hm9 : m ≤ 1024 := by
      have h1 : (alongF p path).length = m := HML.out
      have := alongF_short HO.out HRN.out
      have := HO.out.f2
      omega
    clear C05 F05 CG5 FG5 L06 C06 F06 LG6 CG6 FG6
    go_wp2_with fail
    -- MARK4
    go_loopw [9] (fun s9 wr => ∃ i : Nat, i ≤ m ∧ s9 = .int .i64 i ∧ Kept [] X wr) (fun s9 _ => m - (intOf s9).toNat)
    case atStart => exact ⟨0, Nat.zero_le _, rfl, Kept.refl _ _⟩
    case round =>
    clear C0X F0X CGX FGX
    obtain ⟨i, hi, rfl, hkr⟩ := hrel
    have B0R := hkr.blk (by simp) B0X
    have BGR := hkr.blk (by simp) BGX
    have ⟨L0R, C0R, F0R⟩ := B0R
    have ⟨LGR, CGR, FGR⟩ := BGR
    have hkVR : Kept [] V wr := keptTrans hkVX hkr
    by_cases hlt : i < m
    · as_aux_lemma =>
        have hIR := HIX.out.kept hkr
        obtain ⟨bl, ol, rfl, hll, hcl⟩ := hIR.2 (by omega)
        have rl := hcl i hlt
        obtain ⟨d, hd⟩ : ∃ d, gi (alongF ⟨p.ns, p.es, p.mn, p.F, p.fl, p.sd⟩ path) i = d := ⟨_, rfl⟩
        rw [hd] at rl
        have hmem : d ∈ alongF p path := mem_upto (by rw [show (alongF p path).length = m from HML.out]; exact hlt) hd
        have HH1 : Hid (holdsS ((List.range n1).map (solR p)) ((List.range n1).map (solF p)) (nd : Int) d = true) := Lib.hid (by rw [← HND.out]; exact walk_holds HO.out HG.out.nd.1 HRN.out (.inr hmem))
        have hi9 : (i : Int) < (m : Int) := by omega
        have HRR := Lib.hid (HR3.out.later hkVR.toBelow)
        have HFR := Lib.hid (HF3.out.later hkVR.toBelow)
        clear hcl hd hmem hIR hlt
        go_upto_region 14 with fail
        refine wp_region_E 7 (fun w' => SX0 wr w') (by kernel_rfl) (by (repeat' first | (with_reducible assumption) | (with_reducible exact SX0.init _) | (with_reducible exact SX0.refl _) | (with_reducible refine SX0.alloc ?_ _) | (with_reducible refine SX0.call ?_ (by assumption)) | (with_reducible refine SX0.set ?_ _ _ _ ?_) | (with_reducible refine SX0.drew ?_) | (simp; done) | omega | (simp; omega))) (fun hHeld => ?_)
        refine WE_take 0 (v := ?_) rfl (by kernel_rfl) (fun _ _ _ h => h) (Or.inl ⟨by rfl, ?_⟩) (by assumption) ?_; rotate_left; (· intro w9 hSw; (try dsimp only at hSw); go_simp; try with_reducible rfl); (try simp only [Act.put, List.setIfInBounds_toArray, List.set_cons_zero, List.set_cons_succ])
        refine WE_take 1 (v := ?_) rfl (by kernel_rfl) (fun _ _ _ h => h) (Or.inl ⟨by rfl, ?_⟩) (by assumption) ?_; rotate_left; (· intro w9 hSw; (try dsimp only at hSw); go_simp; try with_reducible rfl); (try simp only [Act.put, List.setIfInBounds_toArray, List.set_cons_zero, List.set_cons_succ])
        refine WE_take 2 (v := ?_) rfl (by kernel_rfl) (fun _ _ _ h => h) (Or.inl ⟨by rfl, ?_⟩) (by assumption) ?_; rotate_left; (· intro w9 hSw; (try dsimp only at hSw); go_simp; try with_reducible rfl); (try simp only [Act.put, List.setIfInBounds_toArray, List.set_cons_zero, List.set_cons_succ])
        refine WE_take 3 (v := ?_) rfl (by kernel_rfl) (fun _ _ _ h => h) (Or.inl ⟨by rfl, ?_⟩) (by assumption) ?_; rotate_left; (· intro w9 hSw; (try dsimp only at hSw); go_simp; try with_reducible rfl); (try simp only [Act.put, List.setIfInBounds_toArray, List.set_cons_zero, List.set_cons_succ])
        refine WE_take 4 (v := ?_) rfl (by kernel_rfl) (fun _ _ _ h => h) (Or.inl ⟨by rfl, ?_⟩) (by assumption) ?_; rotate_left; (· intro w9 hSw; (try dsimp only at hSw); go_simp; try with_reducible rfl); (try simp only [Act.put, List.setIfInBounds_toArray, List.set_cons_zero, List.set_cons_succ])
        refine WE_take 5 (v := ?_) rfl (by kernel_rfl) (fun _ _ _ h => h) (Or.inl ⟨by rfl, ?_⟩) (by assumption) ?_; rotate_left; (· intro w9 hSw; (try dsimp only at hSw); go_simp; try with_reducible rfl); (try simp only [Act.put, List.setIfInBounds_toArray, List.set_cons_zero, List.set_cons_succ])
        refine WE_step 6 rfl (by kernel_rfl) (fun K hK => ?_)
        go_simp
        (go_at_call 31; refine (holds_any S1 S2 n1 n1 n1 n1 _ _ nd d _ (HRR.out.later hHeld.1.toBelow) (HFR.out.later hHeld.1.toBelow) (by omega) (by omega)).mono ?_; rw [HH1.out]; rintro e w9 ⟨rfl, hb9⟩)
        (try go_wp2_with fail)
        refine hK.out _ _ ?_ (fun hHeld => ?_)
        · (repeat' first | (with_reducible assumption) | (with_reducible exact SX0.init _) | (with_reducible exact SX0.refl _) | (with_reducible refine SX0.alloc ?_ _) | (with_reducible refine SX0.call ?_ (by assumption)) | (with_reducible refine SX0.set ?_ _ _ _ ?_) | (with_reducible refine SX0.drew ?_) | (simp; done) | omega | (simp; omega))
        clear hK K
        try simp only [Act.put, List.setIfInBounds_toArray, List.set_cons_zero, List.set_cons_succ]
        refine WE_last rfl (by kernel_rfl) (fun K hK => ?_)
        go_simp
        refine hK.out _ _ ?_
        clear hK K
        have hk9 : Kept [] wr w9 := hHeld.1
        go_wp2_with fail
        exact ⟨⟨i + 1, by omega, by go_num, keptTrans hkr hk9⟩, by simp [intOf]; omega⟩
    as_aux_lemma =>
      obtain rfl : i = m := by omega
      clear hlt
      go_upto_region 16 with fail
      refine wp_named (fun T => Kept [] V T) hkVR ?_
      rintro T hkVT
      clear C0R F0R CGR FGR
      -- MARK5
      have B0T := hkVT.blk (by simp) B0V
      have BGT := hkVT.blk (by simp) Bg
      have ⟨L0T, C0T, F0T⟩ := B0T
      have hwT : Below w.heap.size w T := hkVT.below hBV hBV.size (by simp)
      obtain ⟨K1, hK1⟩ : ∃ K1, (Sp.itI p.es 2000 p.mn (9 + 1)).1 = K1 := ⟨_, rfl⟩
      obtain ⟨K2, hK2⟩ : ∃ K2, (Sp.itI p.es 2000 p.mn (10 + 1)).1 = K2 := ⟨_, rfl⟩
      have HK1 := Lib.hid hK1
      have HK2 := Lib.hid hK2
      have e9 : ((9 : Nat) : Int) = 9 := rfl
      have e10 : ((10 : Nat) : Int) = 10 := rfl
      clear hK1 hK2
      go_upto_region 17 with (go_at_call 35; refine (rshort_any A1 A2 A3 A4 n1 c1 n2 c2 n3 c3 n4 c4 9 _ (HG.out.later hwT) (HF.out.later hwT) (HS.out.later hwT) (by omega) HO.out (by omega) (by omega) K1 HK1.out).mono ?_; rintro e w5 ⟨S3, d3, S4, d4, m1, hm1, rfl, hr5, hf5, hb5⟩; have HM1 := Lib.hid hm1; clear hm1)
      refine wp_named (fun U => ∃ q, w5.heap.size = q ∧ Blk U q [.slice S3 n1 d3, .slice S4 n1 d4] ∧ Kept [] w5 U) ⟨_, rfl, Blk.new _ _ _ _ rfl, (Kept.refl _ _).alloc _⟩ ?_
      rintro U ⟨q, eq_, Bq, hkU⟩
      rw [eq_]
      have hkTU : Kept [] T U := ((Kept.refl [] T).call hb5).next hkU (by simp)
      have HR5 := Lib.hid (hr5.later hkU.toBelow)
      have HF5 := Lib.hid (hf5.later hkU.toBelow)
      have B0U := hkTU.blk (by simp) B0T
      have BGU := hkTU.blk (by simp) BGT
      have ⟨L0U, C0U, F0U⟩ := B0U
      have hwU : Below w.heap.size w U := hkTU.below hwT hwT.size (by simp)
      have hgq : g ≠ q := by have := BGT.1; have := hb5.size; omega
      clear C0T F0T eq_ hr5 hf5
      go_upto_region 18 with (go_at_call 35; refine (rshort_any A1 A2 A3 A4 n1 c1 n2 c2 n3 c3 n4 c4 10 _ (HG.out.later hwU) (HF.out.later hwU) (HS.out.later hwU) (by omega) HO.out (by omega) (by omega) K2 HK2.out).mono ?_; rintro e w6 ⟨S5, d5, S6, d6, m2, hm2, rfl, hr6, hf6, hb6⟩; have HM2 := Lib.hid hm2; clear hm2)
      refine wp_named (fun Y => Kept [] w6 Y) ((Kept.refl _ _).alloc _) ?_
      rintro Y hkY
      have hkUY : Kept [] U Y := ((Kept.refl [] U).call hb6).next hkY (by simp)
      have BGY := hkUY.blk (by simp) BGU
      have BQY := hkUY.blk (by simp) Bq
      have ⟨LGY, CGY, FGY⟩ := BGY
      have ⟨LQY, CQY, FQY⟩ := BQY
      have hwY : Below w.heap.size w Y := hkUY.below hwU hwU.size (by simp)
      clear C0U F0U hr6 hf6
      by_cases t1 : 2000 ≤ m2
      · have x1 : decide ((2000 : Int) ≤ (m2 : Int)) = true := by simp; omega
        clear t1
        go_wp2_with (go_at_call 26; refine (knows_any _).mono ?_; rintro e w7 ⟨rfl, hb7⟩)
        go_ret
        exact ⟨rfl, ((Kept.refl [] Y).call hb7).below hwY hwY.size (by simp)⟩
      have x1 : decide ((2000 : Int) ≤ (m2 : Int)) = false := by simp; omega
      by_cases t2 : m1 = m2
      case neg =>
        have x2 : ((m1 : Int) != (m2 : Int)) = true := by simp; omega
        have x3 : (m1 != m2) = true := by simpa using t2
        clear t1 t2
        go_wp2_with (go_at_call 26; refine (knows_any _).mono ?_; rintro e w7 ⟨rfl, hb7⟩)
        go_ret
        exact ⟨rfl, ((Kept.refl [] Y).call hb7).below hwY hwY.size (by simp)⟩
      subst t2
      have HMS : Hid (∀ x, (shS p K1).1 x = solR p x ∧ (shS p K1).2 x = solF p x) := Lib.hid (fun x => by
        rw [← HK1.out]
        exact meet_sol HO.out (by rw [HK2.out, ← HM2.out]; omega) (by rw [HK1.out, HK2.out, ← HM1.out, ← HM2.out]) x)
      have HRB : Hid (Bls Y S3 n1 ((List.range n1).map (solR p))) := Lib.hid (by
        have h1 := HR5.out.later hkUY.toBelow
        rwa [List.map_congr_left (fun x _ => (HMS.out x).1)] at h1)
      have HFB : Hid (IntsR Y S4 n1 ((List.range n1).map (solF p))) := Lib.hid (by
        have h1 := HF5.out.later hkUY.toBelow
        rwa [List.map_congr_left (fun x _ => (HMS.out x).2)] at h1)
      have hkVY : Kept [] V Y := keptTrans (keptTrans hkVT hkTU) hkUY
      have HRA := Lib.hid (HR3.out.later hkVY.toBelow)
      have HFA := Lib.hid (HF3.out.later hkVY.toBelow)
      clear t1
      go_wp2_with (first | (go_at_call 30; refine (rsame_eq S1 S2 S3 S4 n1 n1 n1 n1 d3 d4 _ _ _ HRA.out HRB.out HFA.out HFB.out (by omega) (by omega)).mono ?_; rintro e w7 ⟨rfl, hb7⟩) | (go_at_call 26; refine (knows_any _).mono ?_; rintro e w8 ⟨rfl, hb8⟩))
      go_ret
      exact ⟨rfl, (((Kept.refl [] Y).call hb7).call hb8).below hwY hwY.size (by simp)⟩
end Go.Proofs.Ytffkikhknabddaa
