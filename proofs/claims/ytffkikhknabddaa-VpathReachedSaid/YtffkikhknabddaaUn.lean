/- The reference's Frames. -/
import Derived.Test.YtffkikhknabddaaUk
import Derived.Test.YtffkikhknabddaaUi
import Derived.Laws.OwnMore
import Derived.Deep.DeepCutAuto
import Derived.Deep.CutBlock
namespace Go.Df
open Go.RowKit
namespace Rc
open Sp If
theorem pcells_len (l : List (Nat × Nat)) : (pcells l).length = l.length * 2 := by
  induction l with
  | nil => rfl
  | cons x l ih => unfold pcells at ih ⊢; rw [List.flatMap_cons, List.length_append, ih, List.length_cons]; simp only [List.length_cons, List.length_nil]; omega
theorem own_pair {w : World} {base : Nat} {e : TypeId} {A : Option Addr} {m c : Nat} {l : List (Nat × Nat)} (h : w.ownsRow base e 2 (.slice A m c) l.length (pcells l)) {i : Nat} (hi : i < l.length) :
    ∃ b, A = some ⟨b, 0, none⟩ ∧ b < w.heap.size ∧ w.cell? ⟨b, i * 2, none⟩ = some (.int .i64 (l[i].1 : Nat)) ∧ w.cell? ⟨b, i * 2 + 1, none⟩ = some (.int .i64 (l[i].2 : Nat)) := by
  have hlt := fun {g : Nat} (hg : (Value.slice A m c).ownBlock = some g) => own_lt2 h hg
  rcases h.2 with ⟨h1, h2⟩ | ⟨g', cap, cur, h1, _⟩
  · omega
  · injection h1 with e1 e2 e3
    obtain ⟨p1, p2⟩ := pcells_at l hi
    have q1 := h.cells (g := g') (by rw [e1]; rfl) _ _ p1
    have q2 := h.cells (g := g') (by rw [e1]; rfl) _ _ p2
    rw [add_lit, Nat.zero_add] at q1 q2
    exact ⟨g', e1, hlt (by rw [e1]; rfl), q1, q2⟩
theorem Rd.of_own2 {w : World} {base : Nat} {e : TypeId} {A : Option Addr} {m c : Nat} {cs : List Value} (h : w.ownsRow base e 2 (.slice A m c) m cs) : Rd w 2 A m cs := by
  have hlt := fun {g : Nat} (hg : (Value.slice A m c).ownBlock = some g) => own_lt2 h hg
  refine ⟨h.1, fun h0 => ?_⟩
  rcases h.2 with ⟨h1, h2⟩ | ⟨g', cap, cur, h1, _⟩
  · omega
  · injection h1 with e1 e2 e3
    subst e1
    refine ⟨g', 0, rfl, hlt rfl, fun j hj => ?_⟩
    have hj' : j < cs.length := by rw [h.1]; exact hj
    have q1 := h.cells (g := g') rfl j _ (List.getElem?_eq_getElem hj')
    rw [add_lit] at q1
    rw [List.getElem?_eq_getElem hj']
    exact q1
theorem rd_pair {w : World} {A : Option Addr} {m : Nat} {l : List (Nat × Nat)} (h : Rd w 2 A m (pcells l)) {i : Nat} (hi : i < l.length) :
    ∃ b o, A = some ⟨b, o, none⟩ ∧ b < w.heap.size ∧ w.cell? ⟨b, o + i * 2, none⟩ = some (.int .i64 (l[i].1 : Nat)) ∧ w.cell? ⟨b, o + i * 2 + 1, none⟩ = some (.int .i64 (l[i].2 : Nat)) := by
  have h1 := h.1
  rw [pcells_len] at h1
  obtain ⟨b, o, e, hl, hc⟩ := h.2 (by omega)
  obtain ⟨p1, p2⟩ := pcells_at l hi
  exact ⟨b, o, e, hl, (hc (i * 2) (by omega)).trans p1, (hc (i * 2 + 1) (by omega)).trans p2⟩
theorem pcells_one (l : List (Nat × Nat)) : ∀ u ∈ pcells l, u.oneCell' = true := fun u hu => by
  unfold pcells at hu
  obtain ⟨x, _, hx⟩ := List.mem_flatMap.1 hu
  simp only [List.mem_cons, List.not_mem_nil, or_false] at hx
  rcases hx with rfl | rfl <;> rfl
theorem take_fadd (f : Fs) {l : List (Nat × Nat)} {j : Nat} (h : j < l.length) : (l.take (j + 1)).foldl fadd f = fadd ((l.take j).foldl fadd f) l[j] := by
  rw [List.take_add_one, List.getElem?_eq_getElem h, List.foldl_append]
  rfl
theorem fadd_old {f : Fs} {x : Nat × Nat} (h : f.e x.1 x.2 = true) : fadd f x = f := by unfold fadd; rw [if_pos h]
theorem fadd_len (f : Fs) (x : Nat × Nat) (h : f.e x.1 x.2 = false) : (fadd f x).q.length = f.q.length + 1 := by unfold fadd; rw [if_neg (by simp [h])]; simp
end Rc
end Go.Df
namespace Go.Proofs.Ytffkikhknabddaa
open Go.RowKit Go.Df Go.Df.If Go.Df.Rc
attribute [local go_sem ↓] Go.wp_at_zero Go.wp_at_succ
theorem brow_info : (Try.prog.info? 29).map (fun i => (i.zero, i.size, i.bytes)) = some (some (.slice none 0 0), 1, 24) := by kernel_rfl

set_option maxRecDepth 100000 in
set_option maxHeartbeats 40000000 in
theorem rframes_any (A1 A2 : Option Addr) (n1 c1 n2 c2 mN : Nat) (ns : List Sp.Nd) (es : List Sp.Ed) (w : World) (hnd : Nds w A1 n1 ns) (hed : Eds w A2 n2 es) (hs : Sp.superErr ns es (mN : Int) = 0) (hmN : mN < n1) :
    Calls Try.prog 59 #[.agg #[.slice A1 n1 c1, .slice A2 n2 c2, .int .i64 (mN : Int)]] w fun e w' =>
      ∃ g bs f, e = .returned (.slice (some ⟨g, 0, none⟩) n1 n1) ∧ GdR w' g n1 bs f ∧ (∀ s n, f s n = true ↔ FR es (mN : Int) s n) ∧ Below w.heap.size w w' := by
  have hN8 : n1 ≤ 8192 := by have := (sup_parts hs).1; have := hnd.1; omega
  have hE8 : n2 ≤ 32768 := by have := (sup_parts hs).2.1; have := hed.1; omega
  have HN := Lib.hid hnd.1
  have HE := Lib.hid hed.1
  have HND := Lib.hid hnd
  have HED := Lib.hid hed
  have HS := Lib.hid hs
  obtain ⟨NN, hNN⟩ : ∃ NN, n1 * n1 = NN := ⟨_, rfl⟩
  have hNN8 : NN ≤ 67108864 := by rw [← hNN]; exact Nat.mul_le_mul hN8 hN8
  have HNN := Lib.hid hNN
  have hmN2 : (mN : Int) < (n1 : Int) := by omega
  obtain ⟨MR, hMR⟩ : ∃ M, (List.replicate n1 (Value.slice none 0 0)).toArray = M := ⟨_, rfl⟩
  obtain ⟨MB, hMB⟩ : ∃ M, (List.replicate n1 (Value.bool false)).toArray = M := ⟨_, rfl⟩
  obtain ⟨i0, hi, hz0, hz1, hz2⟩ := info_parts within_info
  obtain ⟨i2, l1, l2, l3, l4⟩ := info_parts brow_info
  obtain ⟨i3, m1, m2, m3, m4⟩ := info_parts boolr_info
  have hmkR := fun w => run_make1 (P := Try.prog) Try.underlying88 l1 l2 l3 l4 rfl n1 (by omega) (by omega) MR hMR w
  have hmkB := fun w => run_make1 (P := Try.prog) Try.underlying29 m1 m2 m3 m4 rfl n1 (by omega) (by omega) MB hMB w
  have HMRi : Hid (∀ i, i < n1 → MR[i]? = some (.slice none 0 0)) := fun i hi => by rw [← hMR]; exact rep_at hi
  have HMBi : Hid (∀ i, i < n1 → MB[i]? = some (.bool false)) := fun i hi => by rw [← hMB]; exact rep_at hi
  clear hMR hMB hnd hed hs hNN
  go_enter Try.func59, Try.ntmps59
  go_upto_region 1 with fail
  refine wp_named (fun W => ∃ b0, w.heap.size = b0 ∧ Blk W b0 [.slice A1 n1 c1, .slice A2 n2 c2, .int .i64 (mN : Int)] ∧ Below w.heap.size w W) ⟨_, rfl, ?_, ?_⟩ ?_
  · exact Blk.new _ _ _ _ (by first | rfl | simp)
  · go_grown
  rintro W ⟨b0, e0, B0, hB⟩
  rw [e0]
  have G0 : w.heap.size ≤ b0 := by omega
  clear e0
  have ⟨L0, C0, F0⟩ := B0
  have hkW : Kept [] w W := (Kept.refl _ _).call hB
  have B0' := Lib.hid B0
  go_upto_region 2 with fail
  -- MARK1
  refine wp_named (fun X => ∃ g, W.heap.size = g ∧ X.heap[g]? = some (.cells MR 29 (0, 0)) ∧ Kept [] W X) ⟨_, rfl, heap_alloc_new _ _, (Kept.refl _ _).alloc _⟩ ?_
  rintro V ⟨g, eg, OV, hkV⟩
  rw [eg]
  have G0 := Lib.hid (Gd.start (lo := V.heap.size) (e := fun _ _ => false) (bs := fun _ => 0) OV HMRi.out)
  have hgW : W.heap.size ≤ g := by omega
  have hgV : g < V.heap.size := (Array.getElem?_eq_some_iff.1 OV).1
  have B0V := Lib.hid (hkV.blk (by simp) B0)
  clear C0 F0 hmkR OV eg
  go_wp2_with fail
  -- MARK2
  go_loopw [4] (fun s4 wq => ∃ (k : Nat) (bs : Nat → Nat), k ≤ n1 ∧ s4 = .int .i64 k ∧ Kept [g] V wq ∧ Hid (Gd wq V.heap.size g n1 k bs (fun _ _ => false))) (fun s4 _ => n1 - (intOf s4).toNat)
  case atStart => exact ⟨0, _, Nat.zero_le _, rfl, Kept.refl _ _, G0⟩
  case round =>
  clear G0
  rename World => wq
  obtain ⟨k, bs, hk, rfl, hkq, GQ⟩ := hrel
  have hb0g : b0 ∉ [g] := fun hm => by have h1 := List.mem_singleton.1 hm; have h2 := B0'.out.1; omega
  have ⟨L0q, C0q, F0q⟩ := hkq.blk hb0g B0V.out
  have hszq : V.heap.size ≤ wq.heap.size := hkq.size
  by_cases hlt : k < n1
  · have hkn : (k : Int) < (n1 : Int) := by omega
    have d1 := GQ.out.nil k (Nat.le_refl _) hlt
    have d2 := GQ.out.fg k
    have d3 := GQ.out.gl
    go_wp2_with fail
    -- MARK3
    exact ⟨⟨k + 1, upd1 bs k wq.heap.size, by omega, by go_num, by rw [← World.setCell_alloc_past _ _ _ _ d3]; exact (hkq.alloc _).set g k _ (.inl (by simp)), Lib.hid (by rw [← World.setCell_alloc_past _ _ _ _ d3]; exact GQ.out.grow hlt ((Kept.refl [] wq).alloc _) (Nat.le_refl _) hszq (heap_alloc_new _ _) HMBi.out)⟩, by simp [intOf]; omega⟩
  obtain rfl : k = n1 := by omega
  have hkWq : Kept [] W wq := kept_fresh hkV hkq (by simpa using hgW)
  have FMI : Hid (Fm 159 wq.heap.size wq W.heap.size g k bs (.slice none 0 0) ⟨fun _ _ => false, []⟩) := Lib.hid ⟨⟨GQ.out.gl, GQ.out.fg, GQ.out.row, GQ.out.nil, GQ.out.bl, fun i hi => by have h1 := GQ.out.lo i hi; have h2 := hkV.size; omega, GQ.out.cl, GQ.out.fr, GQ.out.inj, GQ.out.ng⟩, World.ownsRow_nil _ _ _ _, Nat.le_refl _, GQ.out.bl, GQ.out.gl⟩
  have d1 := GQ.out.row mN hmN
  have d2 := GQ.out.cl mN mN hmN hmN
  have d3 := GQ.out.fr mN mN hmN
  have d4 := GQ.out.bl mN hmN
  have d5 := GQ.out.gl
  clear GQ
  go_upto_region 7 with fail
  -- MARK4
  refine wp_region_E 8 (fun w' => SX0 wq w') (by kernel_rfl) (by (repeat' first | (with_reducible assumption) | (with_reducible exact SX0.init _) | (with_reducible exact SX0.refl _) | (with_reducible refine SX0.alloc ?_ _) | (with_reducible refine SX0.call ?_ (by assumption)) | (with_reducible refine SX0.set ?_ _ _ _ ?_) | (with_reducible refine SX0.drew ?_) | (simp; done) | omega | (simp; omega))) (fun hHeld => ?_)
  refine WE_take 0 (v := ?_) rfl (by kernel_rfl) (fun _ _ _ h => h) (Or.inl ⟨by rfl, ?_⟩) (by assumption) ?_; rotate_left; (· intro w9 hSw; (try dsimp only at hSw); go_simp; try with_reducible rfl); (try simp only [Act.put, List.setIfInBounds_toArray, List.set_cons_zero, List.set_cons_succ])
  refine WE_take 1 (v := ?_) rfl (by kernel_rfl) (fun _ _ _ h => h) (Or.inl ⟨by rfl, ?_⟩) (by assumption) ?_; rotate_left; (· intro w9 hSw; (try dsimp only at hSw); go_simp; try with_reducible rfl); (try simp only [Act.put, List.setIfInBounds_toArray, List.set_cons_zero, List.set_cons_succ])
  refine WE_take 2 (v := ?_) rfl (by kernel_rfl) (fun _ _ _ h => h) (Or.inl ⟨by rfl, ?_⟩) (by assumption) ?_; rotate_left; (· intro w9 hSw; (try dsimp only at hSw); go_simp; try with_reducible rfl); (try simp only [Act.put, List.setIfInBounds_toArray, List.set_cons_zero, List.set_cons_succ])
  refine WE_take 3 (v := ?_) rfl (by kernel_rfl) (fun _ _ _ h => h) (Or.inl ⟨by rfl, ?_⟩) (by assumption) ?_; rotate_left; (· intro w9 hSw; (try dsimp only at hSw); go_simp; try with_reducible rfl); (try simp only [Act.put, List.setIfInBounds_toArray, List.set_cons_zero, List.set_cons_succ])
  refine WE_take 4 (v := ?_) rfl (by kernel_rfl) (fun _ _ _ h => h) (Or.inl ⟨by rfl, ?_⟩) (by assumption) ?_; rotate_left; (· intro w9 hSw; (try dsimp only at hSw); go_simp; try with_reducible rfl); (try simp only [Act.put, List.setIfInBounds_toArray, List.set_cons_zero, List.set_cons_succ])
  refine WE_take 5 (v := ?_) rfl (by kernel_rfl) (fun _ _ _ h => h) (Or.inl ⟨by rfl, ?_⟩) (by assumption) ?_; rotate_left; (· intro w9 hSw; (try dsimp only at hSw); go_simp; try with_reducible rfl); (try simp only [Act.put, List.setIfInBounds_toArray, List.set_cons_zero, List.set_cons_succ])
  refine WE_take 6 (v := ?_) rfl (by kernel_rfl) (fun _ _ _ h => h) (Or.inl ⟨by rfl, ?_⟩) (by assumption) ?_; rotate_left; (· intro w9 hSw; (try dsimp only at hSw); go_simp; try with_reducible rfl); (try simp only [Act.put, List.setIfInBounds_toArray, List.set_cons_zero, List.set_cons_succ])
  refine WE_take 7 (v := ?_) rfl (by kernel_rfl) (fun _ _ _ h => h) (Or.inl ⟨by rfl, ?_⟩) (by assumption) ?_; rotate_left; (· intro w9 hSw; (try dsimp only at hSw); go_simp; try with_reducible rfl); (try simp only [Act.put, List.setIfInBounds_toArray, List.set_cons_zero, List.set_cons_succ])
  refine WE_last rfl (by kernel_rfl) (fun K hK => ?_)
  go_simp
  refine hK.out _ _ ?_
  clear hK K
  -- MARK5
  have hset := FMI.out.set (x := (mN, mN)) hmN hmN
  have hset1 : Gd (wq.setCell ⟨bs mN, mN, none⟩ (.bool true)) W.heap.size g k k bs (fun a b => a == mN && b == mN) := by simpa using hset.1
  refine act_named (fun Z => Gd Z W.heap.size g k k bs (fun a b => a == mN && b == mN) ∧ Kept (SB k bs (.slice none 0 0)) wq Z) ⟨hset1.drew, ((Kept.refl _ wq).set _ _ _ (.inl (SB_mem.2 (.inr ⟨_, hmN, rfl⟩)))).drew⟩ ?_
  rintro Z ⟨hGZ, hkZ⟩
  have GZ := Lib.hid hGZ
  have hZq : wq.heap.size ≤ Z.heap.size := hkZ.size
  have hWZ : Kept [] W Z := kept_fresh hkWq hkZ (fun x hx => FMI.out.ge hx hkWq.size)
  have ⟨L0z, C0z, F0z⟩ := hWZ.blk (by simp) B0'.out
  clear hset hset1 d1 d2 d3 d4 d5 hGZ C0q F0q
  go_upto_region 9 with (first
    | (at_builtin; refine wpList_append_rd _ rfl _ _ 157 rfl wq.heap.size 159 i0 (.agg #[.int .i64 0, .int .i64 0]) 2 16 Try.underlying157 hi hz0 hz1 hz2 rfl (by decide) (.slice none 0 0) 0 [] rfl (World.ownsRow_nil _ _ _ _) (some ⟨Z.heap.size, 0, none⟩) 1 1 [.int .i64 (mN : Int), .int .i64 (mN : Int)] rfl (Rd.new2 _ _ _ _ _ rfl) (fun h => by cases h) (by intro u hu; simp only [List.mem_cons, List.not_mem_nil, or_false] at hu; rcases hu with rfl | rfl <;> rfl) 1 rfl _ rfl (by decide) (by decide) (by simp; omega) ?_; intro A8 c8 w8 hown8 hk8 hat8; have HO8 := Lib.hid hown8; have HKA := Lib.hid (((Kept.refl [] Z).alloc _).next hk8 (fun y hy => by cases hy)); clear hown8 hk8 hat8)
    | go_in)
  -- MARK6
  have FM0 : Hid (Fm 159 wq.heap.size w8 W.heap.size g k bs (.slice A8 1 c8) (fs0 mN)) := Lib.hid (FMI.out.put (x := (mN, mN)) rfl (by funext a b; simp) GZ.out hZq HKA.out (by simpa [pcells] using HO8.out))
  have FO0 : Hid (Fo es (mN : Int) k (fs0 mN) 0) := Lib.hid (Fo.init hmN)
  have hkW8 : Kept [] W w8 := kept_fresh hWZ HKA.out (by simp)
  obtain ⟨lim, hlim⟩ : ∃ lim, lim = wq.heap.size := ⟨_, rfl⟩
  have HLW : Hid (W.heap.size ≤ lim) := Lib.hid (by rw [hlim]; exact hkWq.size)
  rw [← hlim] at FM0
  clear C0z F0z FMI GZ hkZ hWZ hZq HO8 HKA hmkB hkWq hkq hlim hszq
  go_wp2_with fail
  go_loopw [5, 6] (fun s5 s6 wq => ∃ (i : Nat) (A : Option Addr) (m cc : Nat) (f : Fs), s5 = .slice A m cc ∧ s6 = .int .i64 i ∧ i ≤ m ∧ Kept [] W wq ∧ Hid (m = f.q.length) ∧ Hid (Fm 159 lim wq W.heap.size g k bs (.slice A m cc) f) ∧ Hid (Fo es (mN : Int) k f i)) (fun _ s6 _ => NN - (intOf s6).toNat)
  case atStart => exact ⟨0, A8, 1, c8, fs0 mN, rfl, rfl, by omega, hkW8, Lib.hid rfl, FM0, FO0⟩
  case round =>
  clear FM0 FO0 hkW8 hkV hgW hgV B0V L0q L0z
  rename World => wr
  obtain ⟨i, A5, m5, c5, f, rfl, rfl, him, hkr, HM5, FM, FO⟩ := hrel
  have ⟨L0r, C0r, F0r⟩ := hkr.blk (by simp) B0'.out
  have hmNN : m5 ≤ NN := by have h1 := FO.out.mu; have h2 := q_le_mu k f; have h3 := HM5.out; have h4 := HNN.out; omega
  by_cases hil : i < m5
  · have hiq : i < f.q.length := by have := HM5.out; omega
    obtain ⟨⟨s, n⟩, hsn⟩ : ∃ x, f.q[i] = x := ⟨_, rfl⟩
    have LK := Lib.hid (FO.out.look HS.out HN.out.symm (s := s) (n := n) (by rw [List.getElem?_eq_getElem hiq, hsn]))
    obtain ⟨b5, hA5, hl5, r1, r2⟩ := own_pair FM.out.own hiq
    rw [hsn] at r1 r2
    subst hA5
    have hin : (i : Int) < (m5 : Int) := by omega
    have hm5c : m5 ≤ c5 := by
      rcases FM.out.own.2 with ⟨h1, _⟩ | ⟨g', cap, cur, h1, _, _, h4, _⟩
      · cases h1
      · injection h1 with _ h6 h5; omega
    clear hsn
    go_upto_region 13 with fail
    -- MARK7
    refine wp_named (fun X => ∃ y, wr.heap.size = y ∧ Blk X y [.int .i64 (s : Int), .int .i64 (n : Int)] ∧ Kept [] wr X) ⟨_, rfl, Blk.new _ _ _ _ rfl, (Kept.refl _ _).alloc _⟩ ?_
    rintro X1 ⟨y, ey, By, hkX⟩
    rw [ey]
    have BY := Lib.hid By
    have hkWX : Kept [] W X1 := keptTrans hkr hkX
    obtain ⟨S, hS⟩ : ∃ S, S = SB k bs (.slice (some ⟨b5, 0, none⟩) m5 c5) := ⟨_, rfl⟩
    have HSW : Hid (∀ x ∈ S, W.heap.size ≤ x) := Lib.hid (fun x hx => by rw [hS] at hx; exact FM.out.ge hx HLW.out)
    have HYS : Hid (y ∉ S) := Lib.hid (fun hm => by rw [hS] at hm; have := FM.out.lt hm; omega)
    have HSB : Hid (∀ i, i < k → bs i ∈ S) := Lib.hid (fun i hi => by rw [hS]; exact SB_mem.2 (.inr ⟨i, hi, rfl⟩))
    have HSO : Hid (∀ x, (Value.slice (some ⟨b5, 0, none⟩) m5 c5).ownBlock = some x → x ∈ S) := Lib.hid (fun x hx => by rw [hS]; exact SB_mem.2 (.inl hx))
    have FX := Lib.hid (FM.out.same hkX)
    have ⟨L0x, C0x, F0x⟩ := hkX.blk (by simp) ((hkr.blk (by simp) B0'.out))
    clear r1 r2 C0r F0r ey By hS FM
    go_wp2_with fail
    -- MARK8
    go_loopw [5, 8] (fun s5 s8 wz => ∃ (j : Nat) (A : Option Addr) (m cc : Nat), s5 = .slice A m cc ∧ s8 = .int .i64 j ∧ j ≤ n2 ∧ Kept S X1 wz ∧ Hid (∀ x, (Value.slice A m cc).ownBlock = some x → x ∈ S ∨ X1.heap.size ≤ x) ∧ Hid (m = (fround es k s n j f).q.length) ∧ Hid (Fm 159 lim wz W.heap.size g k bs (.slice A m cc) (fround es k s n j f))) (fun _ s8 _ => n2 - (intOf s8).toNat)
    case atStart => exact ⟨0, _, m5, c5, rfl, rfl, Nat.zero_le _, Kept.refl _ _, Lib.hid (fun x hx => .inl (HSO.out x hx)), HM5, FX⟩
    case round =>
    clear FX C0x F0x
    rename World => wz
    obtain ⟨j, A6, m6, c6, rfl, rfl, hjn, hkz, HXO, HM6, FZ⟩ := hrel
    have hkWz : Kept [] W wz := kept_fresh hkWX hkz HSW.out
    have ⟨L0z, C0z, F0z⟩ := hkWz.blk (by simp) B0'.out
    have BYz := Lib.hid (hkz.blk HYS.out BY.out)
    have ⟨Lyz, Cyz, Fyz⟩ := BYz.out
    by_cases hjl : j < n2
    · obtain ⟨b2, o2, rfl, hl2, hc2⟩ := HED.out.2 (by omega)
      have hje : j < es.length := by rw [HE.out]; exact hjl
      obtain ⟨r1, r2, r3, r4⟩ := hc2 j hjl
      have hkwz : Kept [] w wz := keptTrans hkW hkWz
      replace r1 := (hkwz.cell b2 _ hl2 (by simp)).trans r1
      replace r2 := (hkwz.cell b2 _ hl2 (by simp)).trans r2
      replace r3 := (hkwz.cell b2 _ hl2 (by simp)).trans r3
      replace r4 := (hkwz.cell b2 _ hl2 (by simp)).trans r4
      have hl2z : b2 < wz.heap.size := Nat.lt_of_lt_of_le hl2 hkwz.size
      have hed := sup_edge HS.out hje
      obtain ⟨ea, hea⟩ := Int.eq_ofNat_of_zero_le hed.1
      obtain ⟨eb, heb⟩ := Int.eq_ofNat_of_zero_le hed.2.2.1
      obtain ⟨ek, hek⟩ : ∃ x, (ge es j).k = x := ⟨_, rfl⟩
      obtain ⟨ec, hec⟩ : ∃ x, (ge es j).c = x := ⟨_, rfl⟩
      rw [hea] at r1
      rw [heb] at r2
      rw [hek] at r3
      rw [hec] at r4
      have hj2 : (j : Int) < (n2 : Int) := by omega
      have HTO : Hid (toX es (fround es k s n j f).e k s n j = if (ea : Int) = n then (if ek = 1 ∨ ek = 5 then [(s, eb)] else if ek = 2 then (eb, eb) :: retX es (fround es k s n j f).e s j es.length else resX es (fround es k s n j f).e k s j es.length) else []) := Lib.hid (by unfold toX; rw [hea, heb, hek, Int.toNat_natCast])
      have HRC : Hid (∀ w, Nds w A1 k ns → Eds w (some ⟨b2, o2, none⟩) n2 es → GdR w g k bs (fround es k s n j f).e → Calls Try.prog 106 #[.agg #[.slice A1 k c1, .slice (some ⟨b2, o2, none⟩) n2 c2, .int .i64 (mN : Int)], .slice (some ⟨g, 0, none⟩) k k, .int .i64 s, .agg #[.int .i64 ea, .int .i64 eb, .int .i64 ek, .int .i64 ec]] w fun e' w' => ∃ A m cc, e' = .returned (.slice A m cc) ∧ w'.ownsRow w.heap.size 159 2 (.slice A m cc) m (pcells (retX es (fround es k s n j f).e s j es.length)) ∧ Below w.heap.size w w') := Lib.hid (fun w h1 h2 h3 => by
        have h4 := rret_any A1 (some ⟨b2, o2, none⟩) k c1 n2 c2 mN ns es w h1 h2 HS.out g bs _ h3 s j hje
        rw [hea, heb, hek, hec] at h4
        exact h4)
      have HRS : Hid (∀ w, Nds w A1 k ns → Eds w (some ⟨b2, o2, none⟩) n2 es → GdR w g k bs (fround es k s n j f).e → Calls Try.prog 107 #[.agg #[.slice A1 k c1, .slice (some ⟨b2, o2, none⟩) n2 c2, .int .i64 (mN : Int)], .slice (some ⟨g, 0, none⟩) k k, .int .i64 s, .agg #[.int .i64 ea, .int .i64 eb, .int .i64 ek, .int .i64 ec]] w fun e' w' => ∃ A m cc, e' = .returned (.slice A m cc) ∧ w'.ownsRow w.heap.size 159 2 (.slice A m cc) m (pcells (resX es (fround es k s n j f).e k s j es.length)) ∧ Below w.heap.size w w') := Lib.hid (fun w h1 h2 h3 => by
        have h4 := rres_any A1 (some ⟨b2, o2, none⟩) k c1 n2 c2 mN ns es w h1 h2 HS.out g bs _ h3 s j hje
        rw [hea, heb, hek, hec] at h4
        exact h4)
      have HFS : Hid (fround es k s n (j + 1) f = (toX es (fround es k s n j f).e k s n j).foldl fadd (fround es k s n j f)) := Lib.hid (fround_succ _ _ _ _ _ _)
      have HEL := Lib.hid (LK.out.el j hje)
      have HQL := Lib.hid (LK.out.ql j hje)
      clear hc2 hea heb hek hec hed
      obtain ⟨fj, hfj⟩ : ∃ fj, fj = fround es k s n j f := ⟨_, rfl⟩
      rw [← hfj] at HM6 FZ HTO HRC HRS HFS HEL HQL
      have HFJ := Lib.hid hfj
      clear hfj
      obtain ⟨L, hL⟩ : ∃ L, L = toX es fj.e k s n j := ⟨_, rfl⟩
      rw [← hL] at HFS HEL HQL HTO
      clear hL
      go_upto_block 6 with fail
      -- MARK9
      refine wp_named (fun X => ∃ y, wz.heap.size = y ∧ Blk X y [.int .i64 ea, .int .i64 eb, .int .i64 ek, .int .i64 ec] ∧ Kept [] wz X) ⟨_, rfl, Blk.new _ _ _ _ rfl, (Kept.refl _ _).alloc _⟩ ?_
      rintro X2 ⟨y2, ey2, By2, hkX2⟩
      rw [ey2]
      have hzy2 : wz.heap.size ≤ y2 := by omega
      have ⟨Ly2, Cy2, Fy2⟩ := By2
      have BY2 := Lib.hid By2
      have hkzX2 : Kept S X1 X2 := hkz.next hkX2 (by simp)
      have hkWX2 : Kept [] W X2 := keptTrans hkWz hkX2
      have F2 := Lib.hid (FZ.out.same hkX2)
      have ⟨Ly1, Cy1, Fy1⟩ := hkX2.blk (by simp) BYz.out
      have BY1 := Lib.hid (hkX2.blk (by simp) BYz.out)
      have ⟨L02, C02, F02⟩ := hkWX2.blk (by simp) B0'.out
      have h2X1 : X1.heap.size ≤ X2.heap.size := hkzX2.size
      have hzX2 : wz.heap.size ≤ X2.heap.size := hkX2.size
      have HSL : Hid (∀ x ∈ SB k bs (.slice A6 m6 c6), x < wz.heap.size) := Lib.hid (fun x hx => FZ.out.lt hx)
      clear r1 r2 r3 r4 C0z F0z Cyz Fyz ey2 By2 FZ hkX2 BYz
      go_cut [10] (fun s10 wx => ∃ (At : Option Addr) (mt ct : Nat), s10 = .slice At mt ct ∧ mt ≤ 300000000 ∧ Kept [] X2 wx ∧ Hid (Rd wx 2 At mt (pcells L)) ∧ Hid (mt = L.length) ∧ Hid (∀ a, At = some a → wz.heap.size ≤ a.block))
      case first =>
       as_aux_lemma =>
        by_cases ka : (ea : Int) = n
        · have HTA : Hid (L = (if ek = 1 ∨ ek = 5 then [(s, eb)] else if ek = 2 then (eb, eb) :: retX es fj.e s j es.length else resX es fj.e k s j es.length)) := Lib.hid (by rw [HTO.out, if_pos ka])
          have qa : ((ea : Int) == (n : Int)) = true := by simpa using ka
          clear ka
          by_cases kb : ek = 1 ∨ ek = 5
          · have HTB : Hid (L = [(s, eb)]) := Lib.hid (by rw [HTA.out, if_pos kb])
            rcases kb with rfl | rfl
            all_goals
              go_wp2_with fail
              go_meet
              exact ⟨some ⟨X2.heap.size, 0, none⟩, 1, 1, rfl, by decide, (Kept.refl _ _).alloc _, Lib.hid (by rw [HTB.out]; exact Rd.new2 _ _ _ _ _ rfl), Lib.hid (by rw [HTB.out]; rfl), Lib.hid (fun a ha => by injection ha with ha; subst ha; exact hzX2)⟩
          · by_cases kc : ek = 2
            · subst kc
              have HTB : Hid (L = (eb, eb) :: retX es fj.e s j es.length) := Lib.hid (by rw [HTA.out, if_neg (by omega), if_pos rfl])
              go_upto_region 22 with fail
              refine wp_named (fun X => X.ownsRow X2.heap.size 159 2 (.slice (some ⟨X2.heap.size, 0, none⟩) 1 1) 1 [.int .i64 (eb : Int), .int .i64 (eb : Int)] ∧ Kept [] X2 X) ⟨World.ownsRow_lit _ _ _ (Nat.le_refl _) (by decide) rfl, (Kept.refl _ _).alloc _⟩ ?_
              rintro Xb ⟨hOb, hkXb⟩
              obtain ⟨y3, hy3⟩ : ∃ y3, X2.heap.size = y3 := ⟨_, rfl⟩
              rw [hy3] at hOb
              rw [hy3]
              have OB := Lib.hid hOb
              have HY3 := Lib.hid hy3
              have hkWXb : Kept [] W Xb := keptTrans hkWX2 hkXb
              have Fb := Lib.hid (F2.out.same hkXb)
              have ⟨Ly1b, Cy1b, Fy1b⟩ := hkXb.blk (by simp) BY1.out
              have ⟨Ly2b, Cy2b, Fy2b⟩ := hkXb.blk (by simp) BY2.out
              have ⟨L0b, C0b, F0b⟩ := hkWXb.blk (by simp) B0'.out
              clear hOb hy3 Cy2 Fy2 Cy1 Fy1 C02 F02
              go_wp2_with fail
              -- MARKC1
              refine (HRC.out _ (HND.out.later (keptTrans hkW hkWXb).toBelow) (HED.out.later (keptTrans hkW hkWXb).toBelow) ⟨Fb.out.gd.gl, fun i hi => ⟨Fb.out.gd.row i hi, Fb.out.gd.bl i hi, fun j hj => Fb.out.gd.cl i j hi hj⟩⟩).mono ?_
              rintro e w4 ⟨AR, mR, cR, rfl, hoR, hbR⟩
              obtain ⟨mt, hmt⟩ : ∃ mt, 1 + mR = mt := ⟨_, rfl⟩
              have hmR : mR = (retX es fj.e s j es.length).length := by have h1 := hoR.1; rw [pcells_len] at h1; omega
              have hmR2 : mR ≤ 32768 := by rw [hmR]; have h1 := retX_len es fj.e s j es.length; have h2 := HE.out; omega
              have hAR : AR = none → mR = 0 := fun h => by
                rcases hoR.2 with ⟨_, h2⟩ | ⟨g', cap, cur, h1, _⟩
                · exact h2
                · rw [h] at h1; injection h1 with e1; cases e1
              have HMT := Lib.hid hmt
              have HMR := Lib.hid hmR
              have HOR := Lib.hid hoR
              have hk4 : Kept [] Xb w4 := (Kept.refl _ _).call hbR
              have hsz4 : X2.heap.size ≤ w4.heap.size := Nat.le_trans hkXb.size hk4.size
              have hsy4 : y3 ≤ w4.heap.size := by have := HY3.out; omega
              have O4 := Lib.hid (own_kept2 (X := []) OB.out hk4 (by simp))
              clear hmt hmR hoR Cy1b Fy1b Cy2b Fy2b C0b F0b
              go_wp2_with (first
                | (at_builtin; refine wpList_append_rd _ rfl _ _ 157 rfl y3 159 i0 (.agg #[.int .i64 0, .int .i64 0]) 2 16 Try.underlying157 hi hz0 hz1 hz2 rfl (by decide) (.slice (some ⟨y3, 0, none⟩) 1 1) 1 _ rfl O4.out AR mR cR _ rfl (Rd.of_own2 HOR.out) hAR (pcells_one _) mt HMT.out _ rfl (by have := HMT.out; unfold maxLen; omega) (by have := HMT.out; omega) hsy4 ?_; intro At ct X3 hown8 hk8 hat8; have HO8 := Lib.hid hown8; have HK8 := Lib.hid hk8; clear hown8 hk8 hat8)
                | go_in)
              -- MARKC2
              have hk24 : Kept [] X2 w4 := keptTrans hkXb hk4
              have hkX3 : Kept [] X2 X3 := kept_fresh hk24 HK8.out (fun x hx => by have h1 := own_ge O4.out (by simpa using hx); have h2 := HY3.out; omega)
              go_meet
              exact ⟨At, mt, ct, rfl, by have := HMT.out; omega, hkX3, Lib.hid (by rw [HTB.out]; exact Rd.of_own2 HO8.out), Lib.hid (by rw [HTB.out, List.length_cons, ← HMR.out, ← HMT.out]; omega), Lib.hid (fun a ha => by
                rcases HO8.out.2 with ⟨h1, _⟩ | ⟨g', cap, cur, h1, h2, _⟩
                · injection h1 with e1; rw [ha] at e1; cases e1
                · injection h1 with e1; rw [ha] at e1; injection e1 with e1; subst e1; have h3 := HY3.out; have h4 : y3 ≤ g' := h2; show wz.heap.size ≤ g'; omega)⟩
            · have HTB : Hid (L = resX es fj.e k s j es.length) := Lib.hid (by rw [HTA.out, if_neg kb, if_neg kc])
              have q1 : (ek == 1) = false := by simp; omega
              have q2 : (ek == 5) = false := by simp; omega
              have q3 : (ek == 2) = false := by simp; omega
              clear kb kc
              go_wp2_with fail
              -- MARKD1
              refine (HRS.out _ (HND.out.later (keptTrans hkW hkWX2).toBelow) (HED.out.later (keptTrans hkW hkWX2).toBelow) ⟨F2.out.gd.gl, fun i hi => ⟨F2.out.gd.row i hi, F2.out.gd.bl i hi, fun j hj => F2.out.gd.cl i j hi hj⟩⟩).mono ?_
              rintro e X3 ⟨At, mt, ct, rfl, hoR, hbR⟩
              have HOR := Lib.hid hoR
              clear hoR
              go_wp2_with fail
              go_meet
              exact ⟨At, mt, ct, rfl, by have h1 := HOR.out.1; rw [pcells_len] at h1; have h2 := resX_len es fj.e k s j es.length; have h3 : es.length * k ≤ 32768 * 8192 := Nat.mul_le_mul (by have := HE.out; omega) hN8; omega, (Kept.refl _ _).call hbR, Lib.hid (by rw [HTB.out]; exact Rd.of_own2 HOR.out), Lib.hid (by rw [HTB.out]; have h1 := HOR.out.1; rw [pcells_len] at h1; omega), Lib.hid (fun a ha => by
                rcases HOR.out.2 with ⟨h1, _⟩ | ⟨g', cap, cur, h1, h2, _⟩
                · injection h1 with e1; rw [ha] at e1; cases e1
                · injection h1 with e1; rw [ha] at e1; injection e1 with e1; subst e1; have h4 : X2.heap.size ≤ g' := h2; show wz.heap.size ≤ g'; omega)⟩
        · have qa : ((ea : Int) == (n : Int)) = false := by simpa using ka
          have HTB : Hid (L = []) := Lib.hid (by rw [HTO.out, if_neg ka])
          clear ka
          go_wp2_with fail
          -- MARKA
          exact ⟨⟨j + 1, A6, m6, c6, rfl, by go_num, by omega, hkzX2, HXO, Lib.hid (by rw [HFS.out, HTB.out]; exact HM6.out), Lib.hid (by rw [HFS.out, HTB.out]; exact F2.out)⟩, by simp [intOf]; omega⟩
      case rest =>
       as_aux_lemma =>
        -- MARKR
        obtain ⟨At, mt, ct, rfl, hmt3, hkX3, HRT, HML, HTZ⟩ := hcut
        have F3 := Lib.hid (F2.out.same hkX3)
        have hkWX3 : Kept [] W wc := keptTrans hkWX2 hkX3
        have hkzX3 : Kept S X1 wc := hkzX2.next hkX3 (by simp)
        clear F2 hkX3 Cy2 Fy2 Cy1 Fy1 C02 F02
        obtain ⟨S2, hS2⟩ : ∃ S2, S2 = SB k bs (.slice A6 m6 c6) := ⟨_, rfl⟩
        have HS2 : Hid (∀ x ∈ S2, x ∈ S ∨ X1.heap.size ≤ x) := Lib.hid (fun x hx => by
          rw [hS2] at hx
          rcases SB_mem.1 hx with h1 | ⟨i, hi, rfl⟩
          · exact HXO.out x h1
          · exact .inl (HSB.out i hi))
        have HS2B : Hid (∀ i, i < k → bs i ∈ S2) := Lib.hid (fun i hi => by rw [hS2]; exact SB_mem.2 (.inr ⟨i, hi, rfl⟩))
        have HS2L : Hid (∀ x ∈ S2, x < wz.heap.size) := Lib.hid (fun x hx => by rw [hS2] at hx; exact HSL.out x hx)
        have HS2O : Hid (∀ x, (Value.slice A6 m6 c6).ownBlock = some x → x ∈ S2) := Lib.hid (fun x hx => by rw [hS2]; exact SB_mem.2 (.inl hx))
        have HSW2 : Hid (∀ x ∈ S2, W.heap.size ≤ x) := Lib.hid (fun x hx => by
          rcases HS2.out x hx with h1 | h1
          · exact HSW.out x h1
          · have := hkWX.size; omega)
        have HTN : Hid (∀ a, At = some a → a.block ∉ S2) := Lib.hid (fun a ha hm => by have h1 := HS2L.out _ hm; have h2 := HTZ.out a ha; omega)
        clear hS2
        go_wp2_with fail
        go_loopw [5, 11] (fun s5 s11 wv => ∃ (q : Nat) (A : Option Addr) (m cc : Nat), q ≤ mt ∧ s5 = .slice A m cc ∧ s11 = .int .i64 q ∧ Kept S2 wc wv ∧ Hid (∀ x, (Value.slice A m cc).ownBlock = some x → x ∈ S2 ∨ wc.heap.size ≤ x) ∧ Hid (m = ((L.take q).foldl fadd fj).q.length) ∧ Hid (Fm 159 lim wv W.heap.size g k bs (.slice A m cc) ((L.take q).foldl fadd fj))) (fun _ s11 _ => mt - (intOf s11).toNat)
        case atStart => exact ⟨0, A6, m6, c6, Nat.zero_le _, rfl, rfl, Kept.refl _ _, Lib.hid (fun x hx => .inl (HS2O.out x hx)), HM6, F3⟩
        case round =>
        clear F3
        rename World => wv
        obtain ⟨q, A7, m7, c7, hqm, rfl, rfl, hkv, HXO7, HM7, FV⟩ := hrel
        have hkWv : Kept [] W wv := kept_fresh hkWX3 hkv HSW2.out
        by_cases hql : q < mt
        · have hqL : q < L.length := by have := HML.out; omega
          obtain ⟨⟨x1, x2⟩, hx⟩ : ∃ x, L[q] = x := ⟨_, rfl⟩
          obtain ⟨bt, ot, hAt, hlt3, t1, t2⟩ := rd_pair HRT.out hqL
          rw [hx] at t1 t2
          have hbt : bt ∉ S2 := HTN.out _ hAt
          subst hAt
          have HX12 : Hid (x1 < k ∧ x2 < k) := Lib.hid (by have h1 := HEL.out _ (List.getElem_mem hqL); rw [hx] at h1; exact h1)
          have hx1 : x1 < k := HX12.out.1
          have hx2 : x2 < k := HX12.out.2
          have hx1' : (x1 : Int) < (k : Int) := by omega
          have hx2' : (x2 : Int) < (k : Int) := by omega
          have hqi : (q : Int) < (mt : Int) := by omega
          obtain ⟨fq, hfq⟩ : ∃ fq, fq = (L.take q).foldl fadd fj := ⟨_, rfl⟩
          rw [← hfq] at HM7 FV
          have HST : Hid ((L.take (q + 1)).foldl fadd fj = fadd fq (x1, x2)) := Lib.hid (by rw [take_fadd _ hqL, hx, hfq])
          have hm7 : m7 ≤ 70000000 := by have h1 := HM7.out; have h2 := HQL.out q; have h3 := HNN.out; rw [← hfq] at h2; omega
          have u1 := (hkv.cell bt _ hlt3 hbt).trans t1
          have u2 := (hkv.cell bt _ hlt3 hbt).trans t2
          have hbtv : bt < wv.heap.size := Nat.lt_of_lt_of_le hlt3 hkv.size
          have g1 := FV.out.gd.row x1 hx1
          have g2 := FV.out.gd.cl x1 x2 hx1 hx2
          have g3 := FV.out.gd.fr x1 x2 hx1
          have g4 := FV.out.gd.bl x1 hx1
          have g5 := FV.out.gd.gl
          have hvX3 : wc.heap.size ≤ wv.heap.size := hkv.size
          have HT1 := Lib.hid t1
          have HT2 := Lib.hid t2
          clear hx hfq t1 t2
          obtain ⟨bv, hbv⟩ : ∃ bv, fq.e x1 x2 = bv := ⟨_, rfl⟩
          rw [hbv] at g2
          have HBV := Lib.hid hbv
          clear hbv
          go_upto_region 28 with fail
          refine wp_region_E 15 (fun w' => SX0 wv w') (by kernel_rfl) (by (repeat' first | (with_reducible assumption) | (with_reducible exact SX0.init _) | (with_reducible exact SX0.refl _) | (with_reducible refine SX0.alloc ?_ _) | (with_reducible refine SX0.call ?_ (by assumption)) | (with_reducible refine SX0.set ?_ _ _ _ ?_) | (with_reducible refine SX0.drew ?_) | (simp; done) | omega | (simp; omega))) (fun hHeld => ?_)
          refine WE_take 0 (v := ?_) rfl (by kernel_rfl) (fun _ _ _ h => h) (Or.inl ⟨by rfl, ?_⟩) (by assumption) ?_; rotate_left; (· intro w9 hSw; (try dsimp only at hSw); go_simp; try with_reducible rfl); (try simp only [Act.put, List.setIfInBounds_toArray, List.set_cons_zero, List.set_cons_succ])
          refine WE_take 1 (v := ?_) rfl (by kernel_rfl) (fun _ _ _ h => h) (Or.inl ⟨by rfl, ?_⟩) (by assumption) ?_; rotate_left; (· intro w9 hSw; (try dsimp only at hSw); go_simp; try with_reducible rfl); (try simp only [Act.put, List.setIfInBounds_toArray, List.set_cons_zero, List.set_cons_succ])
          refine WE_take 2 (v := ?_) rfl (by kernel_rfl) (fun _ _ _ h => h) (Or.inl ⟨by rfl, ?_⟩) (by assumption) ?_; rotate_left; (· intro w9 hSw; (try dsimp only at hSw); go_simp; try with_reducible rfl); (try simp only [Act.put, List.setIfInBounds_toArray, List.set_cons_zero, List.set_cons_succ])
          refine WE_take 3 (v := ?_) rfl (by kernel_rfl) (fun _ _ _ h => h) (Or.inl ⟨by rfl, ?_⟩) (by assumption) ?_; rotate_left; (· intro w9 hSw; (try dsimp only at hSw); go_simp; try with_reducible rfl); (try simp only [Act.put, List.setIfInBounds_toArray, List.set_cons_zero, List.set_cons_succ])
          refine WE_take 4 (v := ?_) rfl (by kernel_rfl) (fun _ _ _ h => h) (Or.inl ⟨by rfl, ?_⟩) (by assumption) ?_; rotate_left; (· intro w9 hSw; (try dsimp only at hSw); go_simp; try with_reducible rfl); (try simp only [Act.put, List.setIfInBounds_toArray, List.set_cons_zero, List.set_cons_succ])
          refine WE_take 5 (v := ?_) rfl (by kernel_rfl) (fun _ _ _ h => h) (Or.inl ⟨by rfl, ?_⟩) (by assumption) ?_; rotate_left; (· intro w9 hSw; (try dsimp only at hSw); go_simp; try with_reducible rfl); (try simp only [Act.put, List.setIfInBounds_toArray, List.set_cons_zero, List.set_cons_succ])
          refine WE_take 6 (v := ?_) rfl (by kernel_rfl) (fun _ _ _ h => h) (Or.inl ⟨by rfl, ?_⟩) (by assumption) ?_; rotate_left; (· intro w9 hSw; (try dsimp only at hSw); go_simp; try with_reducible rfl); (try simp only [Act.put, List.setIfInBounds_toArray, List.set_cons_zero, List.set_cons_succ])
          refine WE_take 7 (v := ?_) rfl (by kernel_rfl) (fun _ _ _ h => h) (Or.inl ⟨by rfl, ?_⟩) (by assumption) ?_; rotate_left; (· intro w9 hSw; (try dsimp only at hSw); go_simp; try with_reducible rfl); (try simp only [Act.put, List.setIfInBounds_toArray, List.set_cons_zero, List.set_cons_succ])
          refine WE_take 8 (v := ?_) rfl (by kernel_rfl) (fun _ _ _ h => h) (Or.inl ⟨by rfl, ?_⟩) (by assumption) ?_; rotate_left; (· intro w9 hSw; (try dsimp only at hSw); go_simp; try with_reducible rfl); (try simp only [Act.put, List.setIfInBounds_toArray, List.set_cons_zero, List.set_cons_succ])
          refine WE_take 9 (v := ?_) rfl (by kernel_rfl) (fun _ _ _ h => h) (Or.inl ⟨by rfl, ?_⟩) (by assumption) ?_; rotate_left; (· intro w9 hSw; (try dsimp only at hSw); go_simp; try with_reducible rfl); (try simp only [Act.put, List.setIfInBounds_toArray, List.set_cons_zero, List.set_cons_succ])
          refine WE_take 10 (v := ?_) rfl (by kernel_rfl) (fun _ _ _ h => h) (Or.inl ⟨by rfl, ?_⟩) (by assumption) ?_; rotate_left; (· intro w9 hSw; (try dsimp only at hSw); go_simp; try with_reducible rfl); (try simp only [Act.put, List.setIfInBounds_toArray, List.set_cons_zero, List.set_cons_succ])
          refine WE_take 11 (v := ?_) rfl (by kernel_rfl) (fun _ _ _ h => h) (Or.inl ⟨by rfl, ?_⟩) (by assumption) ?_; rotate_left; (· intro w9 hSw; (try dsimp only at hSw); go_simp; try with_reducible rfl); (try simp only [Act.put, List.setIfInBounds_toArray, List.set_cons_zero, List.set_cons_succ])
          refine WE_take 12 (v := ?_) rfl (by kernel_rfl) (fun _ _ _ h => h) (Or.inl ⟨by rfl, ?_⟩) (by assumption) ?_; rotate_left; (· intro w9 hSw; (try dsimp only at hSw); go_simp; try with_reducible rfl); (try simp only [Act.put, List.setIfInBounds_toArray, List.set_cons_zero, List.set_cons_succ])
          refine WE_take 13 (v := ?_) rfl (by kernel_rfl) (fun _ _ _ h => h) (Or.inl ⟨by rfl, ?_⟩) (by assumption) ?_; rotate_left; (· intro w9 hSw; (try dsimp only at hSw); go_simp; try with_reducible rfl); (try simp only [Act.put, List.setIfInBounds_toArray, List.set_cons_zero, List.set_cons_succ])
          refine WE_take 14 (v := ?_) rfl (by kernel_rfl) (fun _ _ _ h => h) (Or.inl ⟨by rfl, ?_⟩) (by assumption) ?_; rotate_left; (· intro w9 hSw; (try dsimp only at hSw); go_simp; try with_reducible rfl); (try simp only [Act.put, List.setIfInBounds_toArray, List.set_cons_zero, List.set_cons_succ])
          refine WE_last rfl (by kernel_rfl) (fun K hK => ?_)
          go_simp
          refine hK.out _ _ ?_
          clear hK K
          refine act_named (fun Z => Kept [] wv Z ∧ ∀ b o, Z.cell? ⟨b, o, none⟩ = wv.cell? ⟨b, o, none⟩ ∧ Z.frozen? ⟨b, o, none⟩ = wv.frozen? ⟨b, o, none⟩) ⟨(Kept.refl [] wv).drew, fun _ _ => ⟨rfl, rfl⟩⟩ ?_
          rintro wu ⟨hku, hcu⟩
          cases bv with
          | true =>
            have HFA : Hid (fadd fq (x1, x2) = fq) := Lib.hid (fadd_old HBV.out)
            go_wp2_with fail
            -- MARKT
            exact ⟨⟨q + 1, A7, m7, c7, by omega, rfl, by go_num, hkv.next hku (by simp), HXO7, Lib.hid (by rw [HST.out, HFA.out]; exact HM7.out), Lib.hid (by rw [HST.out, HFA.out]; exact FV.out.same hku)⟩, by simp [intOf]; omega⟩
          | false =>
            have HB := HBV
            have FU := Lib.hid (FV.out.same hku)
            have v1 := (hcu bt _).1.trans u1
            have v2 := (hcu bt _).1.trans u2
            have k1 := (hcu _ _).1.trans g1
            have k2 := (hcu _ _).1.trans g2
            have k3 := (hcu _ _).2.trans g3
            have k4 := Nat.lt_of_lt_of_le g4 hku.size
            have k5 := Nat.lt_of_lt_of_le g5 hku.size
            have k6 := Nat.lt_of_lt_of_le hbtv hku.size
            clear u1 u2 g1 g2 g3 g4 g5 hbtv hcu
            go_upto_region 29 with fail
            -- MARKL2
            refine wp_region_E 14 (fun w' => SX0 wu w') (by kernel_rfl) (by (repeat' first | (with_reducible assumption) | (with_reducible exact SX0.init _) | (with_reducible exact SX0.refl _) | (with_reducible refine SX0.alloc ?_ _) | (with_reducible refine SX0.call ?_ (by assumption)) | (with_reducible refine SX0.set ?_ _ _ _ ?_) | (with_reducible refine SX0.drew ?_) | (simp; done) | omega | (simp; omega))) (fun hHeld => ?_)
            refine WE_take 0 (v := ?_) rfl (by kernel_rfl) (fun _ _ _ h => h) (Or.inl ⟨by rfl, ?_⟩) (by assumption) ?_; rotate_left; (· intro w9 hSw; (try dsimp only at hSw); go_simp; try with_reducible rfl); (try simp only [Act.put, List.setIfInBounds_toArray, List.set_cons_zero, List.set_cons_succ])
            refine WE_take 1 (v := ?_) rfl (by kernel_rfl) (fun _ _ _ h => h) (Or.inl ⟨by rfl, ?_⟩) (by assumption) ?_; rotate_left; (· intro w9 hSw; (try dsimp only at hSw); go_simp; try with_reducible rfl); (try simp only [Act.put, List.setIfInBounds_toArray, List.set_cons_zero, List.set_cons_succ])
            refine WE_take 2 (v := ?_) rfl (by kernel_rfl) (fun _ _ _ h => h) (Or.inl ⟨by rfl, ?_⟩) (by assumption) ?_; rotate_left; (· intro w9 hSw; (try dsimp only at hSw); go_simp; try with_reducible rfl); (try simp only [Act.put, List.setIfInBounds_toArray, List.set_cons_zero, List.set_cons_succ])
            refine WE_take 3 (v := ?_) rfl (by kernel_rfl) (fun _ _ _ h => h) (Or.inl ⟨by rfl, ?_⟩) (by assumption) ?_; rotate_left; (· intro w9 hSw; (try dsimp only at hSw); go_simp; try with_reducible rfl); (try simp only [Act.put, List.setIfInBounds_toArray, List.set_cons_zero, List.set_cons_succ])
            refine WE_take 4 (v := ?_) rfl (by kernel_rfl) (fun _ _ _ h => h) (Or.inl ⟨by rfl, ?_⟩) (by assumption) ?_; rotate_left; (· intro w9 hSw; (try dsimp only at hSw); go_simp; try with_reducible rfl); (try simp only [Act.put, List.setIfInBounds_toArray, List.set_cons_zero, List.set_cons_succ])
            refine WE_take 5 (v := ?_) rfl (by kernel_rfl) (fun _ _ _ h => h) (Or.inl ⟨by rfl, ?_⟩) (by assumption) ?_; rotate_left; (· intro w9 hSw; (try dsimp only at hSw); go_simp; try with_reducible rfl); (try simp only [Act.put, List.setIfInBounds_toArray, List.set_cons_zero, List.set_cons_succ])
            refine WE_take 6 (v := ?_) rfl (by kernel_rfl) (fun _ _ _ h => h) (Or.inl ⟨by rfl, ?_⟩) (by assumption) ?_; rotate_left; (· intro w9 hSw; (try dsimp only at hSw); go_simp; try with_reducible rfl); (try simp only [Act.put, List.setIfInBounds_toArray, List.set_cons_zero, List.set_cons_succ])
            refine WE_take 7 (v := ?_) rfl (by kernel_rfl) (fun _ _ _ h => h) (Or.inl ⟨by rfl, ?_⟩) (by assumption) ?_; rotate_left; (· intro w9 hSw; (try dsimp only at hSw); go_simp; try with_reducible rfl); (try simp only [Act.put, List.setIfInBounds_toArray, List.set_cons_zero, List.set_cons_succ])
            refine WE_take 8 (v := ?_) rfl (by kernel_rfl) (fun _ _ _ h => h) (Or.inl ⟨by rfl, ?_⟩) (by assumption) ?_; rotate_left; (· intro w9 hSw; (try dsimp only at hSw); go_simp; try with_reducible rfl); (try simp only [Act.put, List.setIfInBounds_toArray, List.set_cons_zero, List.set_cons_succ])
            refine WE_take 9 (v := ?_) rfl (by kernel_rfl) (fun _ _ _ h => h) (Or.inl ⟨by rfl, ?_⟩) (by assumption) ?_; rotate_left; (· intro w9 hSw; (try dsimp only at hSw); go_simp; try with_reducible rfl); (try simp only [Act.put, List.setIfInBounds_toArray, List.set_cons_zero, List.set_cons_succ])
            refine WE_take 10 (v := ?_) rfl (by kernel_rfl) (fun _ _ _ h => h) (Or.inl ⟨by rfl, ?_⟩) (by assumption) ?_; rotate_left; (· intro w9 hSw; (try dsimp only at hSw); go_simp; try with_reducible rfl); (try simp only [Act.put, List.setIfInBounds_toArray, List.set_cons_zero, List.set_cons_succ])
            refine WE_take 11 (v := ?_) rfl (by kernel_rfl) (fun _ _ _ h => h) (Or.inl ⟨by rfl, ?_⟩) (by assumption) ?_; rotate_left; (· intro w9 hSw; (try dsimp only at hSw); go_simp; try with_reducible rfl); (try simp only [Act.put, List.setIfInBounds_toArray, List.set_cons_zero, List.set_cons_succ])
            refine WE_take 12 (v := ?_) rfl (by kernel_rfl) (fun _ _ _ h => h) (Or.inl ⟨by rfl, ?_⟩) (by assumption) ?_; rotate_left; (· intro w9 hSw; (try dsimp only at hSw); go_simp; try with_reducible rfl); (try simp only [Act.put, List.setIfInBounds_toArray, List.set_cons_zero, List.set_cons_succ])
            refine WE_take 13 (v := ?_) rfl (by kernel_rfl) (fun _ _ _ h => h) (Or.inl ⟨by rfl, ?_⟩) (by assumption) ?_; rotate_left; (· intro w9 hSw; (try dsimp only at hSw); go_simp; try with_reducible rfl); (try simp only [Act.put, List.setIfInBounds_toArray, List.set_cons_zero, List.set_cons_succ])
            refine WE_last rfl (by kernel_rfl) (fun K hK => ?_)
            go_simp
            refine hK.out _ _ ?_
            clear hK K
            -- MARKL3
            have hset := FU.out.set (x := (x1, x2)) hx1 hx2
            refine act_named (fun Z => Gd Z W.heap.size g k k bs (fun a b => fq.e a b || (a == x1 && b == x2)) ∧ Kept (SB k bs (.slice A7 m7 c7)) wu Z ∧ Z.ownsRow lim 159 2 (.slice A7 m7 c7) m7 (pcells fq.q)) ⟨hset.1.drew, ((Kept.refl _ wu).set _ _ _ (.inl (SB_mem.2 (.inr ⟨_, hx1, rfl⟩)))).drew, own_kept2 (X := []) (by have h1 := hset.2.1; rw [← HM7.out] at h1; exact h1) ((Kept.refl [] _).drew) (by simp)⟩ ?_
            rintro Z ⟨hGZ, hkZ, hOZ⟩
            have GZ := Lib.hid hGZ
            have OZ := Lib.hid hOZ
            have HKS : Hid (∀ x ∈ SB k bs (.slice A7 m7 c7), x ∈ S2 ∨ wc.heap.size ≤ x) := Lib.hid (fun x hx => by
              rcases SB_mem.1 hx with h1 | ⟨i, hi, rfl⟩
              · exact HXO7.out x h1
              · exact .inl (HS2B.out i hi))
            have hkvZ : Kept S2 wc Z := (hkv.next hku (by simp)).next hkZ HKS.out
            have z1 := (hkvZ.cell bt _ hlt3 hbt).trans HT1.out
            have z2 := (hkvZ.cell bt _ hlt3 hbt).trans HT2.out
            have z3 := Nat.lt_of_lt_of_le hlt3 hkvZ.size
            have hlZ : lim ≤ Z.heap.size := Nat.le_trans FU.out.hl hkZ.size
            clear hset hGZ hOZ v1 v2 k1 k2 k3 k4 k5 k6 hku
            go_wp2_with (first
              | (at_builtin; refine wpList_append_rd _ rfl _ _ 157 rfl lim 159 i0 (.agg #[.int .i64 0, .int .i64 0]) 2 16 Try.underlying157 hi hz0 hz1 hz2 rfl (by decide) (.slice A7 m7 c7) m7 _ rfl (own_kept2 (X := []) OZ.out ((Kept.refl [] Z).alloc _) (by simp)) (some ⟨Z.heap.size, 0, none⟩) 1 1 [.int .i64 (x1 : Int), .int .i64 (x2 : Int)] rfl (Rd.new2 _ _ _ _ _ rfl) (fun h => by cases h) (by intro u hu; simp only [List.mem_cons, List.not_mem_nil, or_false] at hu; rcases hu with rfl | rfl <;> rfl) (m7 + 1) rfl _ rfl (by unfold maxLen; omega) (by omega) (by simp; omega) ?_; intro A8 c8 w8 hown8 hk8 hat8; have hkA : Kept (Value.slice A7 m7 c7).ownBlock.toList Z w8 := ((Kept.refl _ Z).alloc _).next hk8 (fun y hy => Or.inl hy); have HO8 := Lib.hid hown8; have HKA := Lib.hid hkA; have HAT := Lib.hid hat8; clear hown8 hk8 hat8 hkA)
              | go_in)
            -- MARKL4
            have hwcZ : wc.heap.size ≤ Z.heap.size := hkvZ.size
            exact ⟨⟨q + 1, _, _, _, by omega, rfl, by go_num, hkvZ.next HKA.out (fun x hx => HXO7.out x (by simpa using hx)), Lib.hid (fun x hx => by
              rcases HAT.out x hx with h1 | h1
              · exact HXO7.out x h1
              · right; rw [h1]; simp; omega), Lib.hid (by rw [HST.out, fadd_len _ _ HB.out, HM7.out]), Lib.hid (by rw [HST.out]; exact FU.out.put (x := (x1, x2)) HB.out rfl GZ.out hlZ HKA.out (by rw [← HM7.out]; exact HO8.out))⟩, by simp [intOf]; omega⟩
        · obtain rfl : mt = q := by omega
          have HLT : Hid (L.take mt = L) := Lib.hid (List.take_of_length_le (by have := HML.out; omega))
          have hX13 : X1.heap.size ≤ wc.heap.size := hkzX3.size
          go_wp2_with fail
          -- MARKL5
          exact ⟨⟨j + 1, A7, m7, c7, rfl, by go_num, by omega, hkzX3.next hkv HS2.out, Lib.hid (fun x hx => by
            rcases HXO7.out x hx with h1 | h1
            · exact HS2.out x h1
            · right; omega), Lib.hid (by rw [HFS.out, ← HLT.out]; exact HM7.out), Lib.hid (by rw [HFS.out, ← HLT.out]; exact FV.out)⟩, by simp [intOf]; omega⟩
    · obtain rfl : n2 = j := by omega
      go_wp2_with fail
      -- MARKE
      have hnx := LK.out.nx
      rw [HE.out] at hnx
      exact ⟨⟨i + 1, A6, m6, c6, _, rfl, by go_num, by have h1 := HM6.out; have ⟨t, h2⟩ := fround_pre es k s n f n2; have h3 := HM5.out; rw [h2, List.length_append] at h1; omega, hkWz, HM6, FZ, Lib.hid hnx⟩, by simp [intOf]; omega⟩
  · obtain rfl : i = m5 := by omega
    go_wp2_with fail
    go_returns
    -- MARKF
    refine ⟨g, bs, f.e, rfl, ⟨FM.out.gd.gl, fun i hi => ⟨FM.out.gd.row i hi, FM.out.gd.bl i hi, fun j hj => FM.out.gd.cl i j hi hj⟩⟩, ?_, (kept_fresh hkW hkr (by simp)).toBelow⟩
    have h1 := FO.out
    rw [HM5.out] at h1
    exact h1.done
end Go.Proofs.Ytffkikhknabddaa
