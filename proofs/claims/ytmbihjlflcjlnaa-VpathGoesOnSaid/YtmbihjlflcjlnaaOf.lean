/- The iterator of vpath.paths: what it gives. -/
import Derived.Test.YtmbihjlflcjlnaaOi
import Derived.Test.YtmbihjlflcjlnaaOg
import Derived.Test.YtmbihjlflcjlnaaOc
import Derived.Test.YtmbihjlflcjlnaaUd
import Derived.Test.YtmbihjlflcjlnaaQe
import Derived.RangeFuncNested
import Derived.RangeFuncBound
import Derived.RangeFuncCalls
import Derived.RangeFuncLeaves
import Derived.Shelf.Abstract
import Derived.Shelf.RegionOpen
import Derived.WalkKit
import Derived.OwnWalkIn
import Derived.TacticsInMore
import Derived.LoopNIn
import Derived.LoopIn
namespace Go.Proofs.Ytmbihjlflcjlnaa
open Go.RowKit Go.Df Go.Shelf
attribute [local go_sem] Oper.semAt_some
/-- What the iterator turns: its queue, its paths. -/
def WalkT (t : TypeId) : Prop := t = 47 ∨ t = 3
def encP (x : Option Addr × Nat × Nat) : Array Value := #[.slice x.1 x.2.1 x.2.2]
theorem inti_fo : (Try.prog.info? 3).map (fun i => (i.zero, i.size, i.bytes)) = some (some (.int .i64 0), 1, 8) := by kernel_rfl
theorem walk_fo : (Try.prog.info? 47).map (fun i => (i.zero, i.size, i.bytes)) = some (some (.agg #[.slice none 0 0, .int .i64 0, .pointer none]), 3, 40) := by kernel_rfl
set_option maxRecDepth 100000 in
set_option maxHeartbeats 4000000 in
theorem paths_seq (bx b0 b1 b2 b3 : Nat) (A1 A2 : Option Addr) (n1 c1 n2 c2 : Nat) (mn fr : Int) (most count : Nat) (ns : List Sp.Nd) (es : List Sp.Ed) (w : World) (hg : Gr w A1 n1 A2 n2 ns es) (hch : Sp.superErr ns es mn = 0) (hc1 : 1 ≤ count) (hc5 : count ≤ 5000) (hm : most ≤ 4096)
    (B0 : Blk w b0 [.slice A1 n1 c1, .slice A2 n2 c2, .int .i64 mn]) (B1 : Blk w b1 [.int .i64 fr]) (B2 : Blk w b2 [.int .i64 most]) (B3 : Blk w b3 [.int .i64 count]) (hfr : 0 ≤ fr ∧ fr < n1) (hbx : bx < w.heap.size) (hx0 : b0 ≠ bx) (hx2 : b2 ≠ bx) (hx3 : b3 ≠ bx) (hxA : 0 < n2 → ∀ a, A2 = some a → a.block ≠ bx) :
    SeqT Fence.wide 5 Try.prog 26 #[.pointer (some ⟨b0, 0, none⟩), .pointer (some ⟨b1, 0, none⟩), .pointer (some ⟨b2, 0, none⟩), .pointer (some ⟨b3, 0, none⟩)] encP WalkT (KpT bx 26)
      (Come (Sp.itI es count fr (most + 1)).1) (fun _ _ => True) (Sp.itI es count fr (most + 1)).1.length w := by
  intro l J Jx W lim0 hW hJ hJl hY h0
  obtain ⟨i1, j1, j2, j3, j4⟩ := info_parts inti_fo
  obtain ⟨i3, m1, m2, m3, m4⟩ := info_parts walk_fo
  have hkW : Kept [] w W := (Kept.refl _ _).call hW
  have HG := Lib.hid (hg.later hW)
  have HCH := Lib.hid hch
  have HJ := Lib.hid hJ
  have HJL := Lib.hid hJl
  have HY := Lib.hid hY
  have H0 := Lib.hid h0
  have HN1 : Hid (ns.length = n1) := hg.nd.1
  have HN2 : Hid (es.length = n2) := hg.ed.1
  have hE2 : n2 ≤ 32768 := by have := (If.sup_parts hch).2.1; have := hg.ed.1; omega
  have B0W := hkW.blk (by simp) B0
  have B1W := hkW.blk (by simp) B1
  have B2W := hkW.blk (by simp) B2
  have B3W := hkW.blk (by simp) B3
  have ⟨L0, C0, F0⟩ := B0W
  have ⟨L1, C1, F1⟩ := B1W
  have ⟨L2, C2, F2⟩ := B2W
  have ⟨L3, C3, F3⟩ := B3W
  have hwW : w.heap.size ≤ W.heap.size := hW.size
  clear hg hch hJ hJl hY h0 B0 B1 B2 B3
  have hO : ∀ W', Kept [] w W' → CallsIn Fence.wide 4 Try.prog 27 #[.agg #[.slice A1 n1 c1, .slice A2 n2 c2, .int .i64 mn]] W fun e w' =>
      ∃ g lim v, e = .returned (.slice (some ⟨g, 0, none⟩) n1 n1) ∧ Rw1 3 lim w' g n1 v (Rc.LO es n2) ∧ W.heap.size ≤ g ∧ W.heap.size ≤ lim ∧ Below W.heap.size W w' := fun _ _ => callsIn_wide.2 (outs_any A1 A2 n1 c1 n2 c2 mn ns es W HG.out.nd HG.out.ed HCH.out)
  refine callsIn_of_wp Try.func26 rfl trivial ?_ rfl
  simp only [Try.ntmps26, List.size_toArray, List.length_cons, List.length_nil, Nat.reduceAdd, Nat.reduceSub, Array.replicate_succ, Array.replicate_zero, List.push_toArray, List.append_toArray, List.nil_append, List.cons_append]
  have hfO : Fence.wide.fn 27 := trivial
  have hfS : Fence.wide.fn 18 := trivial
  have hfC : Fence.wide.fn 28 := trivial
  gi_wp2_with (gi_at_call 27; refine (hO W hkW).mono ?_; rintro e w1 ⟨g, lim, v, rfl, hrw, hgg, hlim, hb1⟩; have HRW := Lib.hid hrw; have hk1 : Kept [] W w1 := (Kept.refl _ _).call hb1; have B0x := hk1.blk (by simp) B0W; have B1x := hk1.blk (by simp) B1W; have B2x := hk1.blk (by simp) B2W; have B3x := hk1.blk (by simp) B3W; have ⟨L01, C01, F01⟩ := B0x; have ⟨L11, C11, F11⟩ := B1x; have ⟨L21, C21, F21⟩ := B2x; have ⟨L31, C31, F31⟩ := B3x; clear hrw)
  have hkx : Kept [] W w1 := (Kept.refl _ _).call hb1
  clear C0 F0 C1 F1 C2 F2 C3 F3
  obtain ⟨L, hL⟩ : ∃ L, (Sp.itI es count fr (most + 1)).1 = L := ⟨_, rfl⟩
  have HL := Lib.hid hL
  rw [hL] at HY
  have hT : L.length ≤ count := by rw [← hL]; exact Sp.itI_out_len _
  have HTL : Hid ((Sp.toldI es count fr (most + 1)).length = L.length) := Lib.hid (by rw [Sp.toldI_len, hL])
  have hWx : W.heap.size ≤ w1.heap.size := hb1.size
  have hlx : lim ≤ w1.heap.size := HRW.out.hlim
  have hbx1 : bx < w1.heap.size := by omega
  have HED := Lib.hid (HG.out.later hb1).ed
  have hgx : g ≠ bx := by omega
  clear hL
  have OWN0 : Hid ((w1.alloc (.cells #[.slice none 0 0, .int .i64 fr, .pointer none] 47)).ownsRow w1.heap.size 47 3 (.slice (some ⟨w1.heap.size, 0, none⟩) 1 1) 1 [.slice none 0 0, .int .i64 fr, .pointer none]) := Lib.hid (World.ownsRow_lit w1 #[.slice none 0 0, .int .i64 fr, .pointer none] 1 (Nat.le_refl _) (by unfold maxLen; omega) rfl)
  have QC0 : Hid (QC w1.heap.size 3 (w1.alloc (.cells #[.slice none 0 0, .int .i64 fr, .pointer none] 47)) [.slice none 0 0, .int .i64 fr, .pointer none] (Sp.bfsQ es most count fr 0)) := Lib.hid (by
    refine ⟨rfl, fun i x hx => ?_⟩
    have hi : i = 0 := by
      rcases Nat.eq_zero_or_pos i with h9 | h9
      · exact h9
      · rw [show Sp.bfsQ es most count fr 0 = [⟨[], fr, []⟩] from rfl, List.getElem?_eq_none (by simp; omega)] at hx; cases hx
    subst hi
    obtain rfl : (⟨[], fr, []⟩ : Sp.It) = x := by simpa [Sp.bfsQ] using hx
    exact ⟨none, 0, 0, none, rfl, rfl, rfl, ⟨⟨Ints.empty _ _, Nat.le_refl _, by omega, fun _ => rfl⟩, fun a ha => by cases ha⟩, rfl⟩)
  gi_loopw [7, 8] (fun s7 s8 wr => ∃ (i : Nat) (A : Option Addr) (k c : Nat) (vs : List Value) (pre : List (Option Addr × Nat × Nat)), i ≤ L.length ∧ s8 = .int .i64 i ∧ s7 = .slice A k c ∧ Hid (LowK bx w1 wr) ∧ Hid (Rw1 3 lim wr g n1 v (Rc.LO es n2)) ∧ Hid ((Sp.bfsQ es most count fr i).length = k) ∧ Hid (wr.ownsRow w1.heap.size 47 3 (.slice A k c) k vs) ∧ Hid (QC w1.heap.size 3 wr vs (Sp.bfsQ es most count fr i)) ∧ Hid (PreV vs pre i) ∧ Hid (J w1.heap.size pre wr)) (fun _ s8 _ => 5001 - (intOf s8).toNat)
  case atStart => exact ⟨0, _, _, _, _, [], Nat.zero_le _, rfl, rfl, Lib.hid ((LowK.refl bx w1).kept ((Kept.refl [] _).alloc _) (by simp)), Lib.hid (HRW.out.kept ((Kept.refl [] _).alloc _) (by simp)), Lib.hid rfl, OWN0, QC0, Lib.hid ⟨rfl, fun j x hx => by simp at hx⟩, Lib.hid (HJ.out _ _ _ _ [] (HJL.out lim0 w1.heap.size w1 (HJ.out lim0 _ _ _ [] H0.out hkx (by simp)) (Nat.le_refl _)) ((Kept.refl [] _).alloc _) (by simp))⟩
  case round =>
  clear OWN0 QC0 HRW
  obtain ⟨i, A, k, c, vs, pre, hi, rfl, rfl, LOW, RW, HQL, OWN, HQC, HPV, HJp⟩ := hrel
  by_cases hlt : i < L.length
  case neg =>
    obtain rfl : i = L.length := by omega
    have hbe := Sp.bfs_end (es := es) (most := most) (a := fr) hc1
    rw [HTL.out] at hbe
    have hkL : k = L.length := by rw [← HQL.out, hbe, HTL.out]
    have HCE : Hid (Come L pre wr) := Lib.hid (come_end HQC.out (by rw [hbe, ← HL.out, Sp.toldI_pa]) HPV.out)
    clear hbe
    subst hkL
    gi_wp2
    go_end0
    refine ⟨⟨_, rfl⟩, .inl ⟨_, pre, ?_, HJp.out⟩⟩
    rw [HL.out]
    exact HCE.out
  have hik : i < k := by rw [← HQL.out]; exact Sp.bfs_more hc1 (by rw [HTL.out]; exact hlt)
  obtain ⟨x, hx⟩ : ∃ x, (Sp.bfsQ es most count fr i)[i]? = some x := ⟨_, List.getElem?_eq_getElem (by rw [HQL.out]; exact hik)⟩
  have hrun := Sp.read_run HCH.out (by rw [HN1.out]; exact hfr) hc1 (by rw [HTL.out]; exact hlt) hx
  obtain ⟨A', n', c', P, q1, q2, q3, hpm, hpd⟩ := HQC.out.2 i x hx
  obtain ⟨xa, hxa⟩ := Int.eq_ofNat_of_zero_le hrun.2.1
  rw [hxa] at q2
  have HXA := Lib.hid hxa
  have hxn : xa < n1 := by have h1 := hrun.2.2.1; have h2 := HN1.out; omega
  obtain ⟨gq, cq, hvq, hgq, hgl, hkc, -, hcell, -⟩ := own_cellsT OWN.out (by omega)
  injection hvq with e1 _ e3
  subst e1 e3
  have r1 := (hcell (i * 3) (by omega)).trans q1
  have r2 := (hcell (i * 3 + 1) (by omega)).trans q2
  have r3 := (hcell (i * 3 + 2) (by omega)).trans q3
  have hi9 : (i : Int) < (k : Int) := by omega
  obtain ⟨gw, hgw⟩ : ∃ gw, gw = wr.heap.size := ⟨_, rfl⟩
  have hkA : Kept [] wr (wr.alloc (.cells #[.slice A' n' c', .int .i64 (xa : Int), .pointer P] 47)) := (Kept.refl _ _).alloc _
  have hJa : J w1.heap.size pre (wr.alloc (.cells #[.slice A' n' c', .int .i64 (xa : Int), .pointer P] 47)) := HJ.out _ pre wr _ [] HJp.out hkA (by simp)
  have TW : Hid (Tag (wr.alloc (.cells #[.slice A' n' c', .int .i64 (xa : Int), .pointer P] 47)) gw 47) := Lib.hid (Tag.new _ _ _ _ hgw)
  have BW : Hid (Blk (wr.alloc (.cells #[.slice A' n' c', .int .i64 (xa : Int), .pointer P] 47)) gw [.slice A' n' c', .int .i64 (xa : Int), .pointer P]) := Lib.hid (Blk.new wr [.slice A' n' c', .int .i64 (xa : Int), .pointer P] _ _ hgw)
  obtain ⟨fn, tmps, assign, body, hy, hR⟩ := HY.out _ pre (A', n', c') _ hJa (by rw [HPV.out.1]; exact hlt)
  dsimp only [encP] at hy
  have HQ1 : Hid (vs[i * 3]? = some (.slice A' n' c')) := q1
  have HRUN := Lib.hid hrun
  have HX := Lib.hid hx
  have HQ3 : Hid (vs[i * 3 + 2]? = some (.pointer P)) := q3
  clear hcell q1 q2 q3 hJa hpm hpd hrun hx hxa
  have HGW := Lib.hid hgw
  gi_wp2
  rw [← hgw]
  have hgw9 : wr.heap.size ≤ gw := by omega
  clear hgw
  refine hR.mono ?_
  rintro e W3 (⟨rfl, hJ3, hk3⟩ | ⟨rfl, hJx3, hk3⟩)
  case inr =>
    gi_wp2
    refine bodyPost_ret (results_none rfl _ _ _) rfl ?_
    exact ⟨⟨_, rfl⟩, .inr ⟨_, trivial, hJx3⟩⟩
  have HJ3 := Lib.hid hJ3
  have HK3 := Lib.hid hk3
  have hb9 : bx < gw := by have := LOW.out.1; omega
  have hd1 : (47 : TypeId) ≠ 26 := by decide
  have hd2 : (3 : TypeId) ≠ 26 := by decide
  have hsame := hk3.tag TW.out (by omega) (fun e => absurd e hd1)
  have BW3 : Blk W3 gw [.slice A' n' c', .int .i64 (xa : Int), .pointer P] := ⟨Nat.lt_of_lt_of_le BW.out.1 hk3.size, fun o => (cell_same hsame o).trans (BW.out.2.1 o), fun o => (frozen_same hsame o).trans (BW.out.2.2 o)⟩
  have LOW3 := Lib.hid ((LOW.out.kept hkA (by simp)).round hk3 (Nat.le_refl _))
  have OWN3 := Lib.hid (own_kpt (own_keptT OWN.out hkA (by simp)) hk3 hd1 hbx1)
  have QC3 := Lib.hid ((HQC.out.call hkA).round hk3 hbx1 hd2)
  have hn10 : 0 < n1 := by omega
  have RW3 := Lib.hid (rw1_round (RW.out.kept hkA (by simp)) hk3 hlx hd2 (by have := RW.out.rlt; omega) hgx hn10)
  have hszr : wr.heap.size < W3.heap.size := by have := hk3.size; simp at this; omega
  have B2r := LOW3.out.blk B2x hx2
  have B0r := LOW3.out.blk B0x hx0
  have B3r := LOW3.out.blk B3x hx3
  have ⟨Lb2, Cb2, Fb2⟩ := B2r
  have ⟨Lb0, Cb0, Fb0⟩ := B0r
  have ⟨Lb3, Cb3, Fb3⟩ := B3r
  have ⟨Lbw, Cbw, Fbw⟩ := BW3
  clear hJ3 hk3 hy hR r1 r2 r3 C01 F01 C11 F11 C21 F21 C31 F31 LOW OWN HQC RW HJp hsame
  by_cases hmo : n' = most
  · have hmo' : ((n' : Int) == (most : Int)) = true := by simp; omega
    have HSAME : Hid (Sp.bfsQ es most count fr (i + 1) = Sp.bfsQ es most count fr i) := Lib.hid (Sp.bfs_most HX.out (by
      obtain ⟨A9, n9, c9, P9, y1, _, _, y4, _⟩ := QC3.out.2 i x HX.out
      rw [HQ1.out] at y1
      injection y1 with y1
      injection y1 with _ e2 _
      rw [y4.1.1.1]
      omega))
    clear hmo
    gi_wp2
    exact ⟨⟨i + 1, _, k, c, vs, pre ++ [(A', n', c')], by omega, by go_num, rfl, LOW3, RW3, Lib.hid (by rw [HSAME.out]; exact HQL.out), OWN3, Lib.hid (by rw [HSAME.out]; exact QC3.out), Lib.hid (HPV.out.snoc HQ1.out), HJ3⟩, by simp [intOf]; omega⟩
  have hmo' : ((n' : Int) == (most : Int)) = false := by simp; omega
  obtain ⟨HPM, HPD⟩ : Hid (PathM w1.heap.size 3 W3 A' n' c' x.pa) ∧ Hid (Pend W3 P x.cs) := by
    obtain ⟨A9, n9, c9, P9, y1, _, y3, y4, y5⟩ := QC3.out.2 i x HX.out
    rw [HQ1.out] at y1
    rw [HQ3.out] at y3
    injection y1 with y1
    injection y1 with e1 e2 e3
    injection y3 with y3
    injection y3 with e4
    subst e1 e2 e3 e4
    exact ⟨y4, y5⟩
  have HNE : Hid (x.pa.length ≠ most) := Lib.hid (by rw [HPM.out.1.1.1]; exact hmo)
  obtain ⟨lo, hlo⟩ : ∃ lo, Rc.LO es n2 xa = lo := ⟨_, rfl⟩
  have HBG : Hid (Sp.bfsQ es most count fr (i + 1) = Sp.grown es count (Sp.bfsQ es most count fr i) x lo lo.length) := Lib.hid (by
    show Sp.bfsS es most count _ i = _
    rw [Sp.bfs_grown HX.out HNE.out, ← hlo, HN2.out, Sp.LO_outS es HXA.out])
  obtain ⟨Ao, co, hvo, hso, hao⟩ := SIn.of_own (RW3.out.own xa hxn)
  have hcv := RW3.out.cell xa hxn
  rw [hlo] at hso hvo
  obtain ⟨mo, hmoo⟩ : ∃ mo, lo.length = mo := ⟨_, rfl⟩
  rw [hmoo] at hso hvo HBG
  rw [hvo] at hcv
  have HSO := Lib.hid hso
  have hmoc : mo ≤ n2 := by rw [← hmoo, ← hlo]; exact Rc.LO_len _ _ _
  have HMO := Lib.hid hmoo
  have hxn' : (xa : Int) < (n1 : Int) := by omega
  have TGQ : Hid (Tag W3 gq 47) := Lib.hid (own_tag OWN3.out rfl)
  have HAO : Hid (∀ a, Ao = some a → a.block ≠ gq) := fun a ha => (own_addr (hvo ▸ RW3.out.own xa hxn) ha).2.1.ne TGQ.out (by decide)
  have HQG : Hid (∀ y j, y < n1 → (v y).ownBlock = some j → j ≠ gq) := fun y j hy hj => (own_tag (RW3.out.own y hy) hj).ne TGQ.out (by decide)
  have hn5 : n' ≤ 4096 := by have h1 := HRUN.out.2.2.2; have h2 := HPM.out.1.1.1; omega
  clear hmo hso hvo hao hmoo hlo
  gi_wp2
  clear hcv Cb0 Fb0 Cb2 Fb2 Cb3 Fb3 Cbw Fbw
  have LW := Lib.hid BW3
  have hgqx : w1.heap.size ≤ gq := hgq
  have hgqw : gq < W3.heap.size := by omega
  gi_loopw [7, 45] (fun s7 s45 wq => ∃ (j m : Nat) (B : Option Addr) (d : Nat) (us : List Value), j ≤ mo ∧ s45 = .int .i64 j ∧ s7 = .slice B m d ∧ Hid (Kept [gq] W3 wq) ∧ Hid ((Sp.grown es count (Sp.bfsQ es most count fr i) x lo j).length = m) ∧ Hid (wq.ownsRow w1.heap.size 47 3 (.slice B m d) m us) ∧ Hid (QC w1.heap.size 3 wq us (Sp.grown es count (Sp.bfsQ es most count fr i) x lo j)) ∧ Hid (PreV us (pre ++ [(A', n', c')]) (i + 1)) ∧ Hid (∀ y, (Value.slice B m d).ownBlock = some y → y = gq ∨ W3.heap.size ≤ y) ∧ Hid (J w1.heap.size (pre ++ [(A', n', c')]) wq)) (fun _ s45 _ => mo - (intOf s45).toNat)
  case atStart => exact ⟨0, k, some ⟨gq, 0, none⟩, c, vs, Nat.zero_le _, rfl, rfl, Lib.hid (Kept.refl _ _), Lib.hid (by rw [Sp.grown_zero]; exact HQL.out), OWN3, Lib.hid (by rw [Sp.grown_zero]; exact QC3.out), Lib.hid (HPV.out.snoc HQ1.out), Lib.hid (fun y hy => .inl (by injection hy with hy; exact hy.symm)), HJ3⟩
  case round =>
  rename World => wq
  obtain ⟨j, m, B, d, us, hj, rfl, rfl, hkq, HGM, OWNq, QCq, HPVq, HAT, HJq⟩ := hrel
  have LOWq := Lib.hid (LOW3.out.kept hkq.out (fun x hx => by obtain rfl := List.mem_singleton.1 hx; exact hgqx))
  have RWq := Lib.hid (RW3.out.kept hkq.out (fun y hy => by
    obtain rfl := List.mem_singleton.1 hy
    exact ⟨by have := RW3.out.rlt; omega, fun z hz he => HQG.out z _ hz he rfl⟩))
  have b0n : b0 ∉ [gq] := fun hm => by have h1 := List.mem_singleton.1 hm; have h2 := B0x.1; omega
  have b3n : b3 ∉ [gq] := fun hm => by have h1 := List.mem_singleton.1 hm; have h2 := B3x.1; omega
  have bwn : gw ∉ [gq] := fun hm => by have h1 := List.mem_singleton.1 hm; omega
  have ⟨M0, D0, E0⟩ := hkq.out.blk b0n B0r
  have ⟨M3, D3, E3⟩ := hkq.out.blk b3n B3r
  have ⟨Mw, Dw, Ew⟩ := hkq.out.blk bwn LW.out
  have hszq : W3.heap.size ≤ wq.heap.size := hkq.out.size
  have hmB : m ≤ 40000 := by
    have h1 := HGM.out
    rw [Sp.grown_len] at h1
    have h2 := Sp.bfsQ_len (es := es) (most := most) (a := fr) hc1 i
    omega
  have FIN : Sp.grown es count (Sp.bfsQ es most count fr i) x lo j = Sp.bfsQ es most count fr (i + 1) → (∃ i_1 A k_1 c_1 vs pre, i_1 ≤ L.length ∧ Value.int .i64 ((i : Int) + 1) = .int .i64 (i_1 : Nat) ∧ Value.slice B m d = .slice A k_1 c_1 ∧ Hid (LowK bx w1 wq) ∧ Hid (Rw1 3 lim wq g n1 v (Rc.LO es n2)) ∧ Hid ((Sp.bfsQ es most count fr i_1).length = k_1) ∧ Hid (wq.ownsRow w1.heap.size 47 3 (.slice A k_1 c_1) k_1 vs) ∧ Hid (QC w1.heap.size 3 wq vs (Sp.bfsQ es most count fr i_1)) ∧ Hid (PreV vs pre i_1) ∧ Hid (J w1.heap.size pre wq)) ∧ 5001 - (intOf (Value.int .i64 ((i : Int) + 1))).toNat < 5001 - (intOf (Value.int .i64 (i : Int))).toNat := fun e =>
    ⟨⟨i + 1, B, m, d, us, _, by omega, by simp, rfl, LOWq, RWq, Lib.hid (by rw [← e]; exact HGM.out), OWNq, Lib.hid (by rw [← e]; exact QCq.out), HPVq, HJq⟩, by simp [intOf]; omega⟩
  by_cases hlj : j < mo
  case neg =>
    obtain rfl : j = mo := by omega
    have HFE := Lib.hid HBG.out.symm
    have HFIN := Lib.hid (FIN HBG.out.symm)
    clear FIN
    gi_wp2
    exact HFIN.out
  by_cases hful : count ≤ m
  · have HFIN := Lib.hid (FIN (by rw [HBG.out]; exact (Sp.grown_full (by rw [HGM.out]; exact hful) (by omega)).symm))
    have hful' : (count : Int) ≤ (m : Int) := by omega
    clear FIN
    obtain ⟨ob, oo, rfl, hol, hoc⟩ := HSO.out.1.2 (by omega)
    have ocell := (hkq.out.cell ob _ hol (by simpa using HAO.out _ rfl)).trans (hoc j hlj)
    have hlj' : (j : Int) < (mo : Int) := by omega
    clear hoc
    gi_wp2
    exact HFIN.out
  have hful' : ¬ (count : Int) ≤ (m : Int) := by omega
  clear FIN
  obtain ⟨ob, oo, rfl, hol, hoc⟩ := HSO.out.1.2 (by omega)
  have ocell := (hkq.out.cell ob _ hol (by simpa using HAO.out _ rfl)).trans (hoc j hlj)
  have hlj' : (j : Int) < (mo : Int) := by omega
  obtain ⟨kk, hkk⟩ : ∃ kk, gi lo j = kk := ⟨_, rfl⟩
  rw [hkk] at ocell
  have HKK := Lib.hid hkk
  have HEQ := Lib.hid (LOWq.out.eds HED.out hxA)
  have HPDq := Lib.hid (pend_keptX hkq.out (fun b u1 u2 hb hm => own_not2 OWN3.out (g := gq) rfl (by rw [List.mem_singleton.1 hm] at hb; exact hb)) x.cs HPD.out)
  have HPMq := Lib.hid (If.ints_keptT HPM.out.1.1 hkq.out (fun a ha hm => (HPM.out.2 a ha).2.ne TGQ.out (by decide) (by simpa using hm)))
  obtain ⟨⟨sr, sa, sc⟩, hst⟩ : ∃ y, Sp.stepS es (xa : Int) x.cs kk = y := ⟨_, rfl⟩
  have HST := Lib.hid hst
  clear hoc hkk hst
  by_cases h0 : sr = 0
  case neg =>
    have h0' : (sr != 0) = true := by simpa using h0
    have HSK : Hid (Sp.grown es count (Sp.bfsQ es most count fr i) x lo (j + 1) = Sp.grown es count (Sp.bfsQ es most count fr i) x lo j) := Lib.hid (Sp.grown_skip (by rw [HKK.out, HXA.out, HST.out]; exact h0))
    clear h0
    gi_wp2_with (gi_at_call 18; refine (callsIn_wide.2 (step_any A1 A2 P n1 c1 n2 c2 mn (xa : Int) kk (.slice A' n' c') es x.cs wq HEQ.out (by omega) HPDq.out)).mono ?_; rw [HST.out]; rintro e w5 ⟨P5, rfl, pd5, hb5⟩)
    have hkV : Kept [] wq (w5.alloc (.cells #[.slice none 0 0, .int .i64 sa, .pointer P5] 47)) := ((Kept.refl [] wq).call hb5).alloc _
    exact ⟨⟨j + 1, m, B, d, us, by omega, by go_num, rfl, Lib.hid (hkq.out.next hkV (by simp)), Lib.hid (by rw [HSK.out]; exact HGM.out), Lib.hid (own_keptT OWNq.out hkV (by simp)), Lib.hid (by rw [HSK.out]; exact QCq.out.call hkV), HPVq, HAT, Lib.hid (HJ.out _ _ _ _ [] HJq.out hkV (by simp))⟩, by simp [intOf]; omega⟩
  subst h0
  have HMR : Hid (Sp.grown es count (Sp.bfsQ es most count fr i) x lo (j + 1) = Sp.grown es count (Sp.bfsQ es most count fr i) x lo j ++ [⟨x.pa ++ [kk], sa, sc⟩]) := Lib.hid (by
    rw [Sp.grown_more (by rw [HKK.out, HXA.out, HST.out]) (by rw [HGM.out]; omega)]
    unfold Sp.nextI
    rw [HKK.out, HXA.out, HST.out])
  have HAP : Hid (x.pa.map (Value.int .i64) ++ [.int .i64 kk] = (x.pa ++ [kk]).map (Value.int .i64)) := Lib.hid (by simp)
  have HA0 : Hid (A' = none → n' = 0) := HPM.out.1.2.2.2
  gi_wp2_with (first
    | (gi_at_call 18; refine (callsIn_wide.2 (step_any A1 A2 P n1 c1 n2 c2 mn (xa : Int) kk (.slice A' n' c') es x.cs wq HEQ.out (by omega) HPDq.out)).mono ?_; rw [HST.out]; rintro e w5 ⟨P5, rfl, pd5, hb5⟩; have PD5 := Lib.hid pd5; clear pd5; obtain ⟨gx, hgx5⟩ : ∃ gx, gx = w5.heap.size := ⟨_, rfl⟩; have HGX := Lib.hid hgx5; clear hgx5; have hkV : Kept [] wq (w5.alloc (.cells #[.slice none 0 0, .int .i64 sa, .pointer P5] 47)) := ((Kept.refl [] wq).call hb5).alloc _; have ⟨Mw5, Dw5, Ew5⟩ := hkV.blk (by simp) (hkq.out.blk bwn LW.out); clear D0 E0 Dw Ew)
    | (gi_at_call 28; refine (callsIn_wide.2 (clone_any A' n' c' x.pa _ (HPMq.out.kept hkV) (by omega) HA0.out)).mono ?_; rintro e w7 ⟨v7, rfl, ho7, hb7⟩; have HO7 := Lib.hid ho7; clear ho7)
    | (gi_at_builtin; refine wpListIn_append_rd _ rfl _ _ 26 rfl (w5.alloc (.cells #[.slice none 0 0, .int .i64 sa, .pointer P5] 47)).heap.size 3 i1 (.int .i64 0) 1 8 Try.underlying26 j1 j2 j3 j4 rfl (by decide) v7 n' (x.pa.map (Value.int .i64)) rfl (own_alloc HO7.out _) (some ⟨w7.heap.size, 0, none⟩) 1 1 [.int .i64 kk] rfl (Rd.new1 _ _ _ _ rfl) (fun h => by cases h) (by intro u hu; simp at hu; subst hu; rfl) (n' + 1) rfl ((x.pa ++ [kk]).map (Value.int .i64)) HAP.out (by unfold maxLen; omega) (by omega) (by have := hb7.size; simp at this ⊢; omega) ?_; intro A8 c8 w8 hown8 hk8 hat8; have HO8 := Lib.hid hown8; have HAT8 := Lib.hid hat8; clear hown8 hat8; have hk58 : Kept [] (w5.alloc (.cells #[.slice none 0 0, .int .i64 sa, .pointer P5] 47)) w8 := (((Kept.refl [] _).call hb7).alloc _).next hk8 (fun y hy => .inr (own_ge HO7.out (by simpa using hy))); have BX8 : Blk w8 w5.heap.size [.slice none 0 0, .int .i64 sa, .pointer P5] := hk58.blk (by simp) (Blk.new w5 [.slice none 0 0, .int .i64 sa, .pointer P5] _ _ rfl); have ⟨LX8, CX8, FX8⟩ := BX8; have hkq8 : Kept [] wq w8 := hkV.next hk58 (by simp); have hle5 : wq.heap.size ≤ w5.heap.size := hb5.size; have hle8 : wq.heap.size ≤ w8.heap.size := hkq8.size; have hleq := LOWq.out.1)
    | (gi_at_builtin; refine wpListIn_append_rd _ rfl _ _ 69 rfl w1.heap.size 47 i3 (.agg #[.slice none 0 0, .int .i64 0, .pointer none]) 3 40 Try.underlying69 m1 m2 m3 m4 rfl (by decide) (.slice B m d) m us rfl (own_keptT OWNq.out ((hkq8.set w5.heap.size 0 _ (.inr hle5)).alloc _) (by simp)) (some ⟨w8.heap.size, 0, none⟩) 1 1 [.slice A8 (n' + 1) c8, .int .i64 sa, .pointer P5] rfl (Rd.newL _ [.slice A8 (n' + 1) c8, .int .i64 sa, .pointer P5] _ 3 _ (by simp) rfl) (fun h => by cases h) (by intro u hu; simp at hu; rcases hu with rfl | rfl | rfl <;> rfl) (m + 1) rfl (us ++ [.slice A8 (n' + 1) c8, .int .i64 sa, .pointer P5]) rfl (by unfold maxLen; omega) (by omega) (by simp; omega) ?_; intro A9 c9 w9 hown9 hk9 hat9; have HO9 := Lib.hid hown9; have HAT9 := Lib.hid hat9; have HK9 := Lib.hid hk9; clear hown9 hat9 hk9))
  obtain ⟨X9, hX9⟩ : ∃ X, (w8.setCell ⟨w5.heap.size, 0, none⟩ (.slice A8 (n' + 1) c8)).alloc (.cells #[.slice A8 (n' + 1) c8, .int .i64 sa, .pointer P5] 47) = X := ⟨_, rfl⟩
  have hkqX : Kept [] wq X9 := by rw [← hX9]; exact (hkq8.set w5.heap.size 0 _ (.inr hle5)).alloc _
  have hk8X : Kept [w5.heap.size] w8 X9 := by rw [← hX9]; exact ((Kept.refl _ _).set w5.heap.size 0 _ (.inl (by simp))).alloc _
  have hk5X : Kept [] w5 X9 := by
    have h1 : Kept [] w5 w8 := (((Kept.refl [] w5).alloc _)).next hk58 (by simp)
    rw [← hX9]
    exact (h1.set w5.heap.size 0 _ (.inr (Nat.le_refl _))).alloc _
  have HK9' : Kept (Value.slice B m d).ownBlock.toList X9 w9 := by rw [← hX9]; exact HK9.out
  have OWNX : X9.ownsRow w1.heap.size 47 3 (.slice B m d) m us := own_keptT OWNq.out hkqX (by simp)
  have hb1' : w1.heap.size ≤ w5.heap.size := by omega
  have OWN8 : X9.ownsRow (w5.alloc (.cells #[.slice none 0 0, .int .i64 sa, .pointer P5] 47)).heap.size 3 1 (.slice A8 (n' + 1) c8) (n' + 1) ((x.pa ++ [kk]).map (Value.int .i64)) := own_keptT HO8.out hk8X (fun y hy hm => by
    have h1 := own_ge HO8.out hy
    have h2 := List.mem_singleton.1 hm
    simp at h1
    omega)
  obtain ⟨A8', c8', hv8, hs8, -⟩ := SIn.of_own OWN8
  injection hv8 with e1 _ e3
  subst e1 e3
  have HPMX : PathM w1.heap.size 3 X9 A8 (n' + 1) c8 (⟨x.pa ++ [kk], sa, sc⟩ : Sp.It).pa := ⟨hs8, fun a ha => by
    have h1 := own_addr OWN8 ha
    have h2 := h1.1
    simp at h2
    exact ⟨by omega, h1.2.1⟩⟩
  have HQ9 := (QCq.out.call hkqX).snoc HK9' OWNX (by decide) HPMX (Pend.kept hk5X sc PD5.out)
  have hW3X : W3.heap.size ≤ X9.heap.size := by have := hkqX.size; omega
  have HJ9 := HJ.out _ _ _ _ _ (HJ.out _ _ _ _ [] HJq.out hkqX (by simp)) HK9' (fun y hy => ⟨by have := own_ge OWNX (by simpa using hy); omega, _, .inl rfl, own_tag OWNX (by simpa using hy)⟩)
  exact ⟨⟨j + 1, m + 1, A9, c9, _, by omega, by go_num, rfl, Lib.hid ((hkq.out.next hkqX (by simp)).next HK9' (fun y hy => by rcases HAT.out y (by simpa using hy) with h1 | h1; exact .inl (by simp [h1]); exact .inr h1)), Lib.hid (by rw [HMR.out, List.length_append, HGM.out]; rfl), HO9, Lib.hid (by rw [HMR.out]; exact HQ9), Lib.hid HPVq.out.more, Lib.hid (fun y hy => by
    rcases HAT9.out y hy with h1 | h1
    · exact HAT.out y h1
    · right; rw [h1, hX9]; exact hW3X), Lib.hid HJ9⟩, by simp [intOf]; omega⟩
end Go.Proofs.Ytmbihjlflcjlnaa
