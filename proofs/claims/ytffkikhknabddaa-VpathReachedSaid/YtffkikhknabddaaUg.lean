/- The contract of vpath.Reached. -/
import Derived.Test.YtffkikhknabddaaUf
namespace Go.Df
open Go.RowKit
theorem boxed_new0 (w : World) (o : Obj) (z : Value) (t : TypeId) :
    ((w.alloc o).alloc (.cells #[z] t)).heap[w.heap.size]? = some o ∧ Blk ((w.alloc o).alloc (.cells #[z] t)) (w.heap.size + 1) [z] ∧ Kept [] w ((w.alloc o).alloc (.cells #[z] t)) := by
  have hk : Kept [] (w.alloc o) ((w.alloc o).alloc (.cells #[z] t)) := (Kept.refl _ _).alloc _
  exact ⟨(hk.block w.heap.size (by simp) (by simp)).trans (heap_alloc_new w o), Blk.new _ _ _ _ (by simp), ((Kept.refl [] w).alloc _).alloc _⟩
/-- Rows of numbers that are only read; none of their blocks is in X. -/
def OutV (w : World) (g N : Nat) (l : Nat → List Int) (X : List Nat) : Prop :=
  g ∉ X ∧ g < w.heap.size ∧ ∀ i, i < N → ∃ A m c, w.cell? ⟨g, i, none⟩ = some (.slice A m c) ∧ Ints w A m (l i) ∧ ∀ a, A = some a → a.block ∉ X ∧ a.block < w.heap.size
theorem ints_kept1 {X : List Nat} {w w' : World} {A : Option Addr} {m : Nat} {l : List Int} (h : Ints w A m l) (hk : Kept X w w') (hA : ∀ a, A = some a → a.block ∉ X) : Ints w' A m l :=
  ⟨h.1, fun hn => by
    obtain ⟨b, o, e, hl, hc⟩ := h.2 hn
    exact ⟨b, o, e, Nat.lt_of_lt_of_le hl hk.size, fun i hi => (hk.cell b (o + i) hl (hA _ e)).trans (hc i hi)⟩⟩
theorem Rw1.out {e : TypeId} {lim : Nat} {w w1 : World} {r N : Nat} {v : Nat → Value} {l : Nat → List Int} (h : Rw1 e lim w r N v l) (hk : Kept [] w w1) {X : List Nat} (hX : ∀ x ∈ X, w.heap.size ≤ x) : OutV w1 r N l X := by
  have hr := Nat.lt_of_lt_of_le h.rlt h.hlim
  refine ⟨fun hm => by have := hX _ hm; omega, Nat.lt_of_lt_of_le hr hk.size, fun i hi => ?_⟩
  obtain ⟨A, c, h1, h2, _⟩ := Ints.of_own (h.own i hi)
  have h4 : ∀ a, A = some a → a.block < w.heap.size := fun a ha => own_lt2 (h.own i hi) (by rw [h1, ha]; rfl)
  refine ⟨A, _, c, ((hk.cell r i hr (by simp)).trans (h.cell i hi)).trans (by rw [h1]), ints_kept1 h2 hk (fun _ _ => by simp), fun a ha => ⟨fun hm => ?_, Nat.lt_of_lt_of_le (h4 a ha) hk.size⟩⟩
  have := hX _ hm
  have := h4 a ha
  omega
theorem OutV.at {w w' : World} {g N : Nat} {l : Nat → List Int} {X : List Nat} (h : OutV w g N l X) (hk : Kept X w w') {i : Nat} (hi : i < N) : ∃ A m c, w'.cell? ⟨g, i, none⟩ = some (.slice A m c) ∧ Ints w' A m (l i) ∧ m = (l i).length ∧ ∀ a, A = some a → a.block ∉ X ∧ a.block < w.heap.size := by
  obtain ⟨A, m, c, h1, h2, h3⟩ := h.2.2 i hi
  exact ⟨A, m, c, (hk.cell g i h.2.1 h.1).trans h1, ints_kept1 h2 hk (fun a ha => (h3 a ha).1), h2.1.symm, h3⟩
end Go.Df
namespace Go.Proofs.Ytffkikhknabddaa
open Go.RowKit Go.Df Go.Df.If Go.Df.Rc
attribute [local go_sem ↓] Go.wp_at_zero Go.wp_at_succ
theorem boolr_info : (Try.prog.info? 4).map (fun i => (i.zero, i.size, i.bytes)) = some (some (.bool false), 1, 1) := by kernel_rfl

/-- What vpath.Reached returns. -/
def GetRe (ns : List Sp.Nd) (es : List Sp.Ed) (mn : Int) (n1 : Nat) (w : World) (e : Ending) (w' : World) : Prop :=
  Below w.heap.size w w' ∧ ((Sp.superErr ns es mn ≠ 0 ∧ e = .returned (.tuple #[.slice none 0 0, .int .i64 (Sp.superErr ns es mn)])) ∨
    (Sp.superErr ns es mn = 0 ∧ ∃ (g : Nat) (f : Nat → Bool), e = .returned (.tuple #[.slice (some ⟨g, 0, none⟩) n1 n1, .int .i64 0]) ∧ g < w'.heap.size ∧ (∀ i, i < n1 → w'.cell? ⟨g, i, none⟩ = some (.bool (f i))) ∧ ∀ n, f n = true ↔ RE es mn n))

set_option maxRecDepth 100000 in
set_option maxHeartbeats 40000000 in
theorem preached_any (A1 A2 : Option Addr) (n1 c1 n2 c2 : Nat) (mn : Int) (ns : List Sp.Nd) (es : List Sp.Ed) (w : World) (hg : Gr w A1 n1 A2 n2 ns es) :
    Calls Try.prog 16 #[.agg #[.slice A1 n1 c1, .slice A2 n2 c2, .int .i64 mn]] w (GetRe ns es mn n1 w) := by
  have HG := Lib.hid hg
  obtain ⟨i1, j1, j2, j3, j4⟩ := info_parts int_info
  clear hg
  go_enter Try.func16, Try.ntmps16
  go_upto_region 1 with fail
  refine wp_named (fun W => ∃ b0, w.heap.size = b0 ∧ Blk W b0 [.slice A1 n1 c1, .slice A2 n2 c2, .int .i64 mn] ∧ Below w.heap.size w W) ⟨_, rfl, ?_, ?_⟩ ?_
  · exact Blk.new _ _ _ _ (by first | rfl | simp)
  · go_grown
  rintro W ⟨b0, e0, B0, hB⟩
  rw [e0]
  have G0 : w.heap.size ≤ b0 := by omega
  clear e0
  have ⟨L0, C0, F0⟩ := B0
  have hkW : Kept [] w W := (Kept.refl _ _).call hB
  go_upto_region 2 with (go_at_call 54; refine (super_any _ _ _ _ _ _ _ ns es _ (HG.out.nd.later hB) (HG.out.ed.later hB) HG.out.wn HG.out.we).mono ?_; rintro e w1 ⟨rfl, hb1⟩)
  have hk1 : Kept [] W w1 := (Kept.refl _ _).call hb1
  have hkw1 : Kept [] w w1 := keptTrans hkW hk1
  have ⟨L1, C1, F1⟩ := hk1.blk (by simp) B0
  have B1 := Lib.hid (hk1.blk (by simp) B0)
  obtain ⟨se, hse⟩ : ∃ x, Sp.superErr ns es mn = x := ⟨_, rfl⟩
  rw [hse]
  have HSE := Lib.hid hse
  clear C0 F0 hse
  by_cases h0 : se = 0
  · have h0' : (se != 0) = false := by simpa using h0
    have HS0 : Hid (Sp.superErr ns es mn = 0) := Lib.hid (by rw [HSE.out]; exact h0)
    clear h0
    have hmain := main_in (sup_parts HS0.out).2.2.1
    obtain ⟨mN, hmN⟩ := Int.eq_ofNat_of_zero_le hmain.1
    subst hmN
    have hN : n1 = ns.length := HG.out.nd.1.symm
    have hE : n2 = es.length := HG.out.ed.1.symm
    have hN8 : n1 ≤ 8192 := by have := (sup_parts HS0.out).1; omega
    have hE8 : n2 ≤ 32768 := by have := (sup_parts HS0.out).2.1; omega
    have hmN : mN < n1 := by have := hmain.2.1; omega
    have HN := Lib.hid hN
    have HE := Lib.hid hE
    clear hmain hN hE
    obtain ⟨MR, hMR⟩ : ∃ M, (List.replicate n1 (Value.slice none 0 0)).toArray = M := ⟨_, rfl⟩
    obtain ⟨MB, hMB⟩ : ∃ M, (List.replicate n1 (Value.bool false)).toArray = M := ⟨_, rfl⟩
    obtain ⟨i2, l1, l2, l3, l4⟩ := info_parts row_info
    obtain ⟨i3, m1, m2, m3, m4⟩ := info_parts boolr_info
    have hmkR := fun w => run_make1 (P := Try.prog) Try.underlying41 l1 l2 l3 l4 rfl n1 (by omega) (by omega) MR hMR w
    have hmkB := fun w => run_make1 (P := Try.prog) Try.underlying29 m1 m2 m3 m4 rfl n1 (by omega) (by omega) MB hMB w
    have HMR := Lib.hid hMR
    have HMB := Lib.hid hMB
    clear hMR hMB
    go_upto_region 5 with (go_at_call 55; refine (outs_any A1 A2 n1 c1 n2 c2 mN ns es _ (HG.out.kept hkw1).nd (HG.out.kept hkw1).ed HS0.out).mono ?_; rintro e w2 ⟨go, limo, vo, rfl, hRO, hgo, hlo, hb2⟩)
    -- MARK1
    have HRO := Lib.hid hRO
    have hk2 : Kept [] w1 w2 := (Kept.refl _ _).call hb2
    have ⟨L2, C2, F2⟩ := hk2.blk (by simp) B1.out
    clear C1 F1 hRO
    go_upto_region 6 with fail
    -- MARK2
    refine wp_named (fun X => ∃ gr t6, w2.heap.size = gr ∧ w2.heap.size + 1 = t6 ∧ X.heap[gr]? = some (.cells MB 4 (0, 0)) ∧ Blk X t6 [.slice (some ⟨gr, 0, none⟩) n1 n1] ∧ Kept [] w2 X) ⟨_, _, rfl, rfl, boxed_new0 _ _ _ _⟩ ?_
    rintro X1 ⟨gr, t6, egr, et6, OGR, B6, hkX1⟩
    rw [egr] at et6 ⊢
    rw [et6]
    have ⟨L3, C3, F3⟩ := hkX1.blk (by simp) (hk2.blk (by simp) B1.out)
    clear C2 F2
    go_upto_region 8 with fail
    -- MARK3
    refine wp_named (fun X => ∃ gw t8, X1.heap.size = gw ∧ X1.heap.size + 1 = t8 ∧ X.heap[gw]? = some (.cells MR 26 (0, 0)) ∧ Blk X t8 [.slice none 0 0] ∧ Kept [] X1 X) ⟨_, _, rfl, rfl, boxed_new0 _ _ _ _⟩ ?_
    rintro V ⟨gw, t8, egw, et8, OGW, B8, hkX2⟩
    rw [egw] at et8 ⊢
    rw [et8]
    have hkwV : Kept [] w V := keptTrans (keptTrans (keptTrans hkw1 hk2) hkX1) hkX2
    have hkWV : Kept [] W V := keptTrans (keptTrans (keptTrans hk1 hk2) hkX1) hkX2
    have B0V := Lib.hid (hkWV.blk (by simp) B0)
    have ⟨L4, C4, F4⟩ := B0V.out
    clear C3 F3 hmkR hmkB
    have q1 : gr < X1.heap.size := (Array.getElem?_eq_some_iff.1 OGR).1
    have q2 : t6 < X1.heap.size := B6.1
    have q3 : gw < V.heap.size := (Array.getElem?_eq_some_iff.1 OGW).1
    have q4 : t8 < V.heap.size := B8.1
    have q5 := hkX2.size
    have OGRV := (hkX2.block gr q1 (by simp)).trans OGR
    have B6V := hkX2.blk (by simp) B6
    have HMRi : Hid (∀ i, i < n1 → MR[i]? = some (.slice none 0 0)) := fun i hi => by rw [← HMR.out]; exact rep_at hi
    have HMBi : Hid (∀ i, i < n1 → MB[i]? = some (.bool false)) := fun i hi => by rw [← HMB.out]; exact rep_at hi
    have RM0 : Hid (Rm 3 V.heap.size V t6 t8 gr gw n1 (fun _ => .slice none 0 0) (.slice none 0 0) ⟨fun _ => false, fun _ => [], []⟩) := Lib.hid ⟨B6V.2.1 0, B6V.2.2 0, B8.2.1 0, B8.2.2 0,
      fun i hi => by simp [World.cell?, OGRV, HMBi.out i hi], fun i => by simp [World.frozen?, OGRV], by omega, by omega, by omega, Nat.le_refl _, World.ownsRow_nil _ _ _ _, Rw1.init 3 OGW HMRi.out, fun i x _ h => by (cases h), by omega, by omega, by omega, by omega, by omega, by omega⟩
    have OUT : Hid (OutV V go n1 (LO es n2) [t8, gr, gw]) := Lib.hid (HRO.out.out (keptTrans hkX1 hkX2) (fun x hx => by
      simp at hx
      have := hkX1.size
      rcases hx with rfl | rfl | rfl <;> omega))
    have hX : Hid (∀ x ∈ [t8, gr, gw], W.heap.size ≤ x) := Lib.hid (fun x hx => by
      have h1 := hk1.size; have h2 := hk2.size; have h3 := hkX1.size
      simp at hx
      rcases hx with rfl | rfl | rfl <;> omega)
    have b0X : b0 ∉ [t8, gr, gw] := fun hm => by have h1 := hX.out _ hm; have h2 := B0.1; omega
    clear OGR B6 OGW B8 q1 q2 q3 q4 q5 OGRV B6V HMRi HMBi HMR HMB HRO egr et6 egw et8 hgo hlo
    go_upto_region 10 with (go_at_call 56; refine (radd_any _ t6 t8 gr gw n1 mN _ _ _ _ RM0.out hmN (by simp)).mono ?_; rintro e w3 ⟨rfl, hR3, hk3⟩)
    -- MARK4
    obtain ⟨tv3, hRm3⟩ := hR3
    have hk3V : Kept [t8, gr, gw] V w3 := keptWide hk3 (fun x hx => by simp [Value.ownBlock] at hx; simp; omega)
    obtain ⟨PM, hPM⟩ : ∃ PM : Nat → World → Prop, PM = fun m wr => ∃ v tv s, Rm 3 V.heap.size wr t6 t8 gr gw n1 v tv s ∧ Ri es mN s (fun _ => False) ∧ Bw es.length (es.length * (2 * n1)) n1 s ∧ meaR n1 s = m ∧ Kept [t8, gr, gw] V wr := ⟨_, rfl⟩
    have HPM := Lib.hid hPM
    have hPM0 : ∃ m, PM m w3 := by rw [hPM]; exact ⟨_, _, _, _, hRm3, Ri.init es mN, Bw.init (m := (mN : Int)) _ _ hmN, rfl, hk3V⟩
    clear hPM RM0 C4 F4 hRm3 hk3 hk3V
    go_loopw [10] (fun _ wr => ∃ m, PM m wr) (fun _ wr => leastM PM wr)
    case atStart => exact hPM0
    case round =>
    clear hPM0
    rename World => wr
    have hex := hrel
    have hsp := leastM_spec hex
    obtain ⟨lv, hlv⟩ : ∃ lv, lv = leastM PM wr := ⟨_, rfl⟩
    rw [← hlv] at hsp
    rw [show PM = _ from HPM.out] at hsp
    have HLV := Lib.hid hlv
    clear hlv
    obtain ⟨v, tv, s, hRm, hRi, hBw, hme, hkr⟩ := hsp
    have RM := Lib.hid hRm
    have RI := Lib.hid hRi
    have BW := Lib.hid hBw
    have HME := Lib.hid hme
    have hownN := Ints.of_own hRm.own
    obtain ⟨A9, c9, htv, hIT, _⟩ := hownN
    subst htv
    have c8 := hRm.c8
    have f8 := hRm.f8
    have HIT := Lib.hid hIT
    clear hRm hRi hBw hme hIT hex hrel
    rcases List.eq_nil_or_concat s.t with hq | ⟨l, n, hq⟩
    · have hq0 : s.t.length = 0 := by rw [hq]; rfl
      rw [hq0] at c8
      have HDN := Lib.hid (RI.out.done hq)
      have c6 := RM.out.c6
      have f6 := RM.out.f6
      have a6 : t6 < wr.heap.size := Nat.lt_of_lt_of_le RM.out.l6 RM.out.hlim
      clear hq hq0
      go_wp2_with fail
      go_returns
      -- MARK6
      refine ⟨(keptTrans hkW (kept_fresh hkWV hkr hX.out)).toBelow, .inr ⟨HS0.out, gr, s.r, rfl, ?_, RM.out.cr, HDN.out⟩⟩
      exact Nat.lt_of_lt_of_le RM.out.lr RM.out.hlim
    · obtain ⟨q, hqn⟩ : ∃ q, l.length = q := ⟨_, rfl⟩
      have hq1 : s.t.length = q + 1 := by rw [hq]; simp [hqn]
      have LF := Lib.hid (look_facts HS0.out HN.out RI.out BW.out (l := l) (n := n) (by rw [hq]; simp))
      have hlt : n < n1 := LF.out.lt
      have hrn : Hid (s.r n = true) := Lib.hid (RI.out.tr n (by rw [hq]; simp))
      have hIT2 := HIT.out
      rw [hq1] at hIT2
      obtain ⟨bt, ot, hA9, hlbt, hct⟩ := hIT2.2 (by omega)
      subst hA9
      have hcn := hct q (by omega)
      rw [show gi (ofNats s.t) q = (n : Int) by rw [hq]; simp [gi, ofNats, hqn]] at hcn
      have hq2 : q + 1 ≤ 16384 := by have h1 := BW.out.1; unfold meaR at h1; omega
      have e1 : ((q + 1 : Nat) : Int) - 1 = (q : Int) := by omega
      rw [hq1] at c8
      have HQ := Lib.hid hq
      have HQ1 := Lib.hid hq1
      have HQN := Lib.hid hqn
      have hc9 : q + 1 ≤ c9 := by
        rcases RM.out.own.2 with ⟨_, h2⟩ | ⟨g', cap, cur, h1, _, _, h4, _⟩
        · omega
        · injection h1 with _ _ h5; omega
      have hc91 : (q : Int) ≤ (c9 : Int) := by omega
      have hn1' : (n : Int) < (n1 : Int) := by omega
      have a8 : t8 < wr.heap.size := Nat.lt_of_lt_of_le RM.out.l8 RM.out.hlim
      clear hq hq1 hqn hIT2 hct
      go_upto_region 12 with fail
      -- MARK7
      go_upto_region 13 with fail
      -- MARK8
      have hpd : popd s = ⟨s.r, s.w, l⟩ := by unfold popd; rw [HQ.out]; simp
      refine wp_named (fun X => Rm 3 V.heap.size X t6 t8 gr gw n1 v (.slice (some ⟨bt, ot, none⟩) q c9) (popd s) ∧ Kept [t8, gr, gw] V X) ⟨?_, hkr.set t8 0 _ (.inl (by simp))⟩ ?_
      · rw [hpd]
        have h9 := RM.out.own
        rw [HQ1.out] at h9
        refine RM.out.push (l := l) (Kept.refl _ _) ?_ (fun g hg => .inl hg)
        have h8 := own_front1 h9 (k := q) (by omega) (by omega)
        rw [HQN.out]
        rw [show ((ofNats s.t).map (Value.int .i64)).take q = (ofNats l).map (Value.int .i64) by rw [HQ.out, ← HQN.out]; simp [ofNats]] at h8
        exact h8
      rintro X ⟨hRX, hkX⟩
      have RX := Lib.hid hRX
      obtain ⟨Ao, mo, co, hco, hio, hao⟩ := OUT.out.2.2 n hlt
      have hcoX := (hkX.cell go n OUT.out.2.1 OUT.out.1).trans hco
      have hgoX : go < X.heap.size := Nat.lt_of_lt_of_le OUT.out.2.1 hkX.size
      rw [HE.out, LO_all] at hio
      have HIO := Lib.hid hio
      have HMO : Hid (mo = (outE es n).length) := Lib.hid (by rw [← hio.1, ofNats_len])
      have HAO := Lib.hid hao
      have hmo : mo ≤ 32768 := by have h1 := HMO.out; have h2 := outE_len es n; have h3 := HE.out; omega
      clear hpd hRX hco hio hao c8 f8 hcn a8
      go_upto_region 14 with fail
      -- MARK10
      go_loopw [55] (fun s55 wq => ∃ (j : Nat) (v' : Nat → Value) (tv' : Value), j ≤ mo ∧ s55 = .int .i64 j ∧ Kept [t8, gr, gw] V wq ∧ Hid (Rm 3 V.heap.size wq t6 t8 gr gw n1 v' tv' (((outE es n).take j).foldl (Rc.edg es) (popd s)))) (fun s55 _ => mo - (intOf s55).toNat)
      case atStart => exact ⟨0, v, _, Nat.zero_le _, rfl, hkX, RX⟩
      case round =>
      clear RX hcoX hgoX hkX
      rename World => wq
      obtain ⟨j, v1, tv1, hj, rfl, hkq, RQ⟩ := hrel
      by_cases hlt2 : j < mo
      · obtain ⟨bo, oo, rfl, hlo, hco⟩ := (ints_kept1 HIO.out hkq (fun a ha => (HAO.out a ha).1)).2 (by omega)
        have hcj := hco j hlt2
        have hjl : j < (outE es n).length := by have := HMO.out; omega
        have hkm := List.getElem_mem hjl
        obtain ⟨k, hk⟩ : ∃ k, (outE es n)[j] = k := ⟨_, rfl⟩
        rw [hk] at hkm
        have hke : k < es.length := (outE_mem.1 hkm).1
        rw [show gi (ofNats (outE es n)) j = (k : Int) by simp [gi, ofNats, hjl, hk]] at hcj
        obtain ⟨s1, hs1⟩ : ∃ s1, s1 = ((outE es n).take j).foldl (Rc.edg es) (popd s) := ⟨_, rfl⟩
        rw [← hs1] at RQ
        have HST : Hid (((outE es n).take (j + 1)).foldl (Rc.edg es) (popd s) = Rc.edg es s1 k) := Lib.hid (by rw [take_fold _ _ hjl, hk, hs1])
        have HSM : Hid (Small s1) := Lib.hid (by rw [hs1]; exact LF.out.edges j)
        obtain ⟨b2, o2, rfl, hl2, hc2⟩ := HG.out.ed.2 (by have := HE.out; omega)
        obtain ⟨r1, r2, r3, r4⟩ := hc2 k (by have := HE.out; omega)
        have hl23 : b2 < V.heap.size := Nat.lt_of_lt_of_le hl2 hkwV.size
        have hb2n : b2 ∉ [t8, gr, gw] := fun hm => by have h1 := hX.out _ hm; have h2 := hkW.size; omega
        replace r1 := (hkq.cell b2 _ hl23 hb2n).trans ((hkwV.cell b2 _ hl2 (by simp)).trans r1)
        replace r2 := (hkq.cell b2 _ hl23 hb2n).trans ((hkwV.cell b2 _ hl2 (by simp)).trans r2)
        replace r3 := (hkq.cell b2 _ hl23 hb2n).trans ((hkwV.cell b2 _ hl2 (by simp)).trans r3)
        replace r4 := (hkq.cell b2 _ hl23 hb2n).trans ((hkwV.cell b2 _ hl2 (by simp)).trans r4)
        have hl2q : b2 < wq.heap.size := Nat.lt_of_lt_of_le hl23 hkq.size
        have hed := sup_edge HS0.out hke
        obtain ⟨eb, heb⟩ := Int.eq_ofNat_of_zero_le hed.2.2.1
        obtain ⟨ea, hea⟩ : ∃ x, (ge es k).a = x := ⟨_, rfl⟩
        obtain ⟨ek, hek⟩ : ∃ x, (ge es k).k = x := ⟨_, rfl⟩
        obtain ⟨ec, hec⟩ : ∃ x, (ge es k).c = x := ⟨_, rfl⟩
        rw [hea] at r1
        rw [heb] at r2
        rw [hek] at r3
        rw [hec] at r4
        have heb1 : eb < n1 := by have h1 := HN.out; have h2 := hed.2.2.2.1; omega
        have HC : Hid (ek ≠ 1 → ek ≠ 5 → 0 ≤ ec ∧ ec < n1) := Lib.hid (fun h1 h2 => by have h3 := hed.2.2.2.2.2.2.1 (by omega) (by omega); have h4 := HN.out; omega)
        have HEB := Lib.hid heb
        have HEK := Lib.hid hek
        have HEC := Lib.hid hec
        have hkn : (k : Int) < (n2 : Int) := by have := HE.out; omega
        have hjn : (j : Int) < (mo : Int) := by omega
        have ⟨L0q, C0q, F0q⟩ := hkq.blk b0X B0V.out
        clear hc2 hco hk hkm hs1 heb hea hek hec hed hjl
        go_upto_region 17 with fail
        -- MARK11
        refine wp_named (fun X => ∃ y, wq.heap.size = y ∧ Blk X y [.int .i64 ea, .int .i64 eb, .int .i64 ek, .int .i64 ec] ∧ Kept [] wq X) ⟨_, rfl, Blk.new _ _ _ _ rfl, (Kept.refl _ _).alloc _⟩ ?_
        rintro X1 ⟨y, ey, By, hkX1⟩
        rw [ey]
        have ⟨Ly, Cy, Fy⟩ := By
        have HBY := Lib.hid By
        have R1 := Lib.hid (RQ.out.same hkX1)
        have hkV1 : Kept [t8, gr, gw] V X1 := hkq.next hkX1 (by simp)
        have hyo : Hid (y ≠ gw ∧ y ≠ t8 ∧ y ≠ gr ∧ y ≠ t6 ∧ (∀ i, i < n1 → (v1 i).ownBlock ≠ some y) ∧ V.heap.size ≤ y) := Lib.hid (by
          have h1 := RQ.out.lw; have h2 := RQ.out.l8; have h3 := RQ.out.lr; have h4 := RQ.out.l6; have h5 := RQ.out.hlim
          refine ⟨by omega, by omega, by omega, by omega, fun i hi e => ?_, by omega⟩
          have := own_lt2 (RQ.out.wt.own i hi) e
          omega)
        clear hcj r1 r2 r3 r4 C0q F0q ey RQ
        by_cases hret : ek = 3 ∨ ek = 4
        · obtain ⟨cN, hcN⟩ := Int.eq_ofNat_of_zero_le (HC.out (by omega) (by omega)).1
          subst hcN
          have hcN1 : cN < n1 := by have := (HC.out (by omega) (by omega)).2; omega
          have hcN2 : (cN : Int) < (n1 : Int) := by omega
          have HRET := Lib.hid hret
          have HV : Hid (true = (decide (ek = 3) || decide (ek = 4))) := Lib.hid (by simpa using hret)
          rcases Bool.eq_false_or_eq_true (s1.r cN) with hrc | hrc
          rotate_left
          · skip
            have HRC := Lib.hid hrc
            clear hret hrc
            go_upto_region 18 with fail
            refine (returns_any ea eb ek cN true HV.out _).mono ?_
            rintro e w5 ⟨rfl, hb5⟩
            have R5 := Lib.hid (R1.out.same ((Kept.refl _ _).call hb5))
            have B5 := Lib.hid (HBY.out.later hb5)
            have ⟨Ly5, Cy5, Fy5⟩ := B5.out
            have d6 := R5.out.c6
            have g6 := R5.out.f6
            have dr := R5.out.cr cN hcN1
            rw [HRC.out] at dr
            have a6 : t6 < w5.heap.size := Nat.lt_of_lt_of_le R5.out.l6 R5.out.hlim
            have ar : gr < w5.heap.size := Nat.lt_of_lt_of_le R5.out.lr R5.out.hlim
            have hkV5 : Kept [t8, gr, gw] V w5 := hkV1.next ((Kept.refl [] X1).call hb5) (by simp)
            go_upto_region 18 with fail
            -- MARK13
            obtain ⟨A91, m91, c91, hv91, hm91⟩ : ∃ A9 m9 c9, v1 cN = .slice A9 m9 c9 ∧ m9 = (ofNats (s1.w cN)).length := by
              rcases (R5.out.wt.own cN hcN1).2 with ⟨h1, h2⟩ | ⟨g', cap, cur, h1, _⟩
              · exact ⟨_, _, _, h1, h2.symm⟩
              · exact ⟨_, _, _, h1, rfl⟩
            have OWN1 : Hid (w5.ownsRow V.heap.size 3 1 (.slice A91 m91 c91) m91 ((ofNats (s1.w cN)).map (Value.int .i64))) := Lib.hid (by have h9 := R5.out.wt.own cN hcN1; rw [hv91, ← hm91] at h9; exact h9)
            have rX1 : w5.cell? ⟨gw, cN, none⟩ = some (.slice A91 m91 c91) := by rw [← hv91]; exact R5.out.wt.cell cN hcN1
            have fX1 : w5.frozen? ⟨gw, cN, none⟩ = false := R5.out.wt.fr cN
            have oX1 : ∀ x, x ∈ (Value.slice A91 m91 c91).ownBlock.toList → V.heap.size ≤ x ∧ x ≠ y := fun x hx => by
              have h1 : (v1 cN).ownBlock = some x := by rw [hv91]; simpa using hx
              exact ⟨own_ge (R5.out.wt.own cN hcN1) h1, fun e => hyo.out.2.2.2.2.1 cN hcN1 (e ▸ h1)⟩
            have xy1 : y ∉ (Value.slice A91 m91 c91).ownBlock.toList := fun hm => (oX1 _ hm).2 rfl
            have xr1 : gw ∉ (Value.slice A91 m91 c91).ownBlock.toList := fun hm => by have h1 := (oX1 _ hm).1; have h2 := R5.out.lw; omega
            have hm9b1 : m91 ≤ 600000000 := by rw [hm91, Df.ofNats_len]; exact HSM.out.2 cN
            have hlX1 : V.heap.size ≤ w5.heap.size := R5.out.hlim
            have hrX1 : gw < w5.heap.size := Nat.lt_of_lt_of_le R5.out.lw R5.out.hlim
            have hyX1 : y < w5.heap.size := Ly5
            have HAB1 : Hid ((ofNats (s1.w cN ++ [eb])).map (Value.int .i64) = (ofNats (s1.w cN)).map (Value.int .i64) ++ [.int .i64 (eb : Int)]) := Lib.hid (by simp [ofNats])
            have HV91 := Lib.hid hv91
            have HM91 := Lib.hid hm91
            have OX1 := Lib.hid oX1
            clear hv91 hm91 oX1 d6 g6 dr Cy Fy
            refine wp_region_E 13 (fun w' => SXt (Value.slice A91 m91 c91).ownBlock.toList y y gw w5 w') (by kernel_rfl) (by (first | (with_reducible assumption) | exact SXt.of (Kept.refl _ _).drew hyX1 hyX1 hrX1 xy1 xy1 xr1 | exact SXt.of (hHeld.1.alloc _) hyX1 hyX1 hrX1 xy1 xy1 xr1 | exact SXt.of HKA1.out hyX1 hyX1 hrX1 xy1 xy1 xr1)) (fun hHeld => ?_)
            refine WE_take 0 (v := ?_) rfl (by kernel_rfl) (fun _ _ _ h => h) (Or.inl ⟨by rfl, ?_⟩) (by assumption) ?_; rotate_left; (· intro w9 hSw; (try dsimp only at hSw); go_simp; try with_reducible rfl); (try simp only [Act.put, List.setIfInBounds_toArray, List.set_cons_zero, List.set_cons_succ])
            refine WE_take 1 (v := ?_) rfl (by kernel_rfl) (fun _ _ _ h => h) (Or.inl ⟨by rfl, ?_⟩) (by assumption) ?_; rotate_left; (· intro w9 hSw; (try dsimp only at hSw); go_simp; try with_reducible rfl); (try simp only [Act.put, List.setIfInBounds_toArray, List.set_cons_zero, List.set_cons_succ])
            refine WE_take 2 (v := ?_) rfl (by kernel_rfl) (fun _ _ _ h => h) (Or.inl ⟨by rfl, ?_⟩) (by assumption) ?_; rotate_left; (· intro w9 hSw; (try dsimp only at hSw); go_simp; try with_reducible rfl); (try simp only [Act.put, List.setIfInBounds_toArray, List.set_cons_zero, List.set_cons_succ])
            refine WE_take 3 (v := ?_) rfl (by kernel_rfl) (fun _ _ _ h => h) (Or.inl ⟨by rfl, ?_⟩) (by assumption) ?_; rotate_left; (· intro w9 hSw; (try dsimp only at hSw); go_simp; try with_reducible rfl); (try simp only [Act.put, List.setIfInBounds_toArray, List.set_cons_zero, List.set_cons_succ])
            refine WE_take 4 (v := ?_) rfl (by kernel_rfl) (fun _ _ _ h => h) (Or.inl ⟨by rfl, ?_⟩) (by assumption) ?_; rotate_left; (· intro w9 hSw; (try dsimp only at hSw); go_simp; try with_reducible rfl); (try simp only [Act.put, List.setIfInBounds_toArray, List.set_cons_zero, List.set_cons_succ])
            refine WE_take 5 (v := ?_) rfl (by kernel_rfl) (fun _ _ _ h => h) (Or.inl ⟨by rfl, ?_⟩) (by assumption) ?_; rotate_left; (· intro w9 hSw; (try dsimp only at hSw); go_simp; try with_reducible rfl); (try simp only [Act.put, List.setIfInBounds_toArray, List.set_cons_zero, List.set_cons_succ])
            refine WE_take 6 (v := ?_) rfl (by kernel_rfl) (fun _ _ _ h => h) (Or.inl ⟨by rfl, ?_⟩) (by assumption) ?_; rotate_left; (· intro w9 hSw; (try dsimp only at hSw); go_simp; try with_reducible rfl); (try simp only [Act.put, List.setIfInBounds_toArray, List.set_cons_zero, List.set_cons_succ])
            refine WE_take 7 (v := ?_) rfl (by kernel_rfl) (fun _ _ _ h => h) (Or.inl ⟨by rfl, ?_⟩) (by assumption) ?_; rotate_left; (· intro w9 hSw; (try dsimp only at hSw); go_simp; try with_reducible rfl); (try simp only [Act.put, List.setIfInBounds_toArray, List.set_cons_zero, List.set_cons_succ])
            refine WE_take 8 (v := ?_) rfl (by kernel_rfl) (fun _ _ _ h => h) (Or.inl ⟨by rfl, ?_⟩) (by assumption) ?_; rotate_left; (· intro w9 hSw; (try dsimp only at hSw); go_simp; try with_reducible rfl); (try simp only [Act.put, List.setIfInBounds_toArray, List.set_cons_zero, List.set_cons_succ])
            refine WE_take 9 (v := ?_) rfl (by kernel_rfl) (fun _ _ _ h => h) (Or.inl ⟨by rfl, ?_⟩) (by assumption) ?_; rotate_left; (· intro w9 hSw; (try dsimp only at hSw); go_simp; try with_reducible rfl); (try simp only [Act.put, List.setIfInBounds_toArray, List.set_cons_zero, List.set_cons_succ])
            refine WE_step 10 rfl (by kernel_rfl) (fun K hK => ?_)
            go_simp
            refine hK.out _ _ ?_ (fun hHeld => ?_)
            · (first | (with_reducible assumption) | exact SXt.of (Kept.refl _ _).drew hyX1 hyX1 hrX1 xy1 xy1 xr1 | exact SXt.of (hHeld.1.alloc _) hyX1 hyX1 hrX1 xy1 xy1 xr1 | exact SXt.of HKA1.out hyX1 hyX1 hrX1 xy1 xy1 xr1)
            clear hK K
            try simp only [Act.put, List.setIfInBounds_toArray, List.set_cons_zero, List.set_cons_succ]
            refine WE_step 11 rfl (by kernel_rfl) (fun K hK => ?_)
            (refine step_append_rd _ rfl _ _ 26 rfl V.heap.size 3 i1 (.int .i64 0) 1 8 Try.underlying26 j1 j2 j3 j4 rfl (by decide) (.slice A91 m91 c91) m91 _ rfl (own_kept2 (X := []) OWN1.out (((Kept.refl [] w5).drew).alloc _) (by simp)) (some ⟨w5.heap.size, 0, none⟩) 1 1 [.int .i64 (eb : Int)] rfl (Rd.new1 _ _ _ _ rfl) (fun h => by cases h) (by intro u hu; simp at hu; subst hu; rfl) (m91 + 1) rfl _ HAB1.out.symm (by unfold maxLen; omega) (by omega) (by simp; omega) ?_; intro A81 c81 w81 hown8 hk8 hat8; have hkA : Kept (Value.slice A91 m91 c91).ownBlock.toList w5 w81 := (((Kept.refl _ w5).drew).alloc _).next hk8 (fun y hy => Or.inl hy); have fX81 := (hkA.frozen _ cN hrX1 xr1).trans fX1; have HO81 := Lib.hid hown8; have HKA1 := Lib.hid hkA; have HAT1 := Lib.hid hat8; clear hown8 hk8 hat8 hkA)
            refine hK.out _ _ ?_ (fun hHeld => ?_)
            · (first | (with_reducible assumption) | exact SXt.of (Kept.refl _ _).drew hyX1 hyX1 hrX1 xy1 xy1 xr1 | exact SXt.of (hHeld.1.alloc _) hyX1 hyX1 hrX1 xy1 xy1 xr1 | exact SXt.of HKA1.out hyX1 hyX1 hrX1 xy1 xy1 xr1)
            clear hK K
            try simp only [Act.put, List.setIfInBounds_toArray, List.set_cons_zero, List.set_cons_succ]
            refine WE_take 12 (v := ?_) rfl (by kernel_rfl) (fun _ _ _ h => h) (Or.inl ⟨by rfl, ?_⟩) (by assumption) ?_; rotate_left; (· intro w9 hSw; (try dsimp only at hSw); go_simp; try with_reducible rfl); (try simp only [Act.put, List.setIfInBounds_toArray, List.set_cons_zero, List.set_cons_succ])
            refine WE_last rfl (by kernel_rfl) (fun K hK => ?_)
            go_simp
            refine hK.out _ _ ?_
            clear hK K
            -- MARK14
            have hga1 : ∀ x, (Value.slice A81 (m91 + 1) c81).ownBlock = some x → (v1 cN).ownBlock = some x ∨ w5.heap.size ≤ x := fun x hx => by rw [HV91.out]; rcases HAT1.out x hx with h1 | h1; (· exact .inl h1); (· right; rw [h1]; simp)
            have hsn1 := R5.out.wait (l := s1.w cN ++ [eb]) (v' := .slice A81 (m91 + 1) c81) hcN1 (by rw [HV91.out]; exact HKA1.out) (by have h9 := HO81.out; rw [HM91.out, Df.ofNats_len] at h9 ⊢; rw [List.length_append]; exact h9) hga1
            refine act_named (fun Z => Rm 3 V.heap.size Z t6 t8 gr gw n1 (upd1 v1 cN (.slice A81 (m91 + 1) c81)) tv1 ⟨s1.r, fun x => if x = cN then s1.w cN ++ [eb] else s1.w x, s1.t⟩ ∧ Kept (gw :: (Value.slice A91 m91 c91).ownBlock.toList) w5 Z) ⟨hsn1, (keptWide HKA1.out (fun x hx => List.mem_cons_of_mem _ hx)).set gw cN _ (.inl (by simp))⟩ ?_
            rintro Z1 ⟨hRZ1, hkZ1⟩
            have hkZ : Kept [t8, gr, gw] V Z1 := hkV5.next hkZ1 (fun x hx => by
              rcases List.mem_cons.1 hx with rfl | h1
              · left; simp
              · right; exact (OX1.out x h1).1)
            have RZ := Lib.hid hRZ1
            clear hRZ1 rX1 fX1 xy1 xr1 OWN1 hsn1 hga1 HAB1 Cy5 Fy5
            go_wp2_with fail
            exact ⟨⟨j + 1, _, tv1, by omega, by go_num, hkZ, Lib.hid (by rw [HST.out, edg_wait (by rw [HEK.out]; exact HRET.out) HEC.out HEB.out HRC.out]; exact RZ.out)⟩, by simp [intOf]; omega⟩
          · skip
            have HRC := Lib.hid hrc
            clear hret hrc
            go_upto_region 19 with fail
            refine (returns_any ea eb ek cN true HV.out _).mono ?_
            rintro e w5 ⟨rfl, hb5⟩
            have R5 := Lib.hid (R1.out.same ((Kept.refl _ _).call hb5))
            have B5 := Lib.hid (HBY.out.later hb5)
            have ⟨Ly5, Cy5, Fy5⟩ := B5.out
            have d6 := R5.out.c6
            have g6 := R5.out.f6
            have dr := R5.out.cr cN hcN1
            rw [HRC.out] at dr
            have a6 : t6 < w5.heap.size := Nat.lt_of_lt_of_le R5.out.l6 R5.out.hlim
            have ar : gr < w5.heap.size := Nat.lt_of_lt_of_le R5.out.lr R5.out.hlim
            have hkV5 : Kept [t8, gr, gw] V w5 := hkV1.next ((Kept.refl [] X1).call hb5) (by simp)
            go_upto_region 19 with fail
            clear d6 g6 dr Cy Fy
            have hst : s1.t.length ≤ 1000000 := by have := HSM.out.1; omega
            go_wp2_with (go_at_call 56; refine (radd_any _ t6 t8 gr gw n1 eb _ _ _ _ R5.out heb1 hst).mono ?_; rintro e w6 ⟨rfl, hR6, hk6⟩)
            obtain ⟨tv6, hR6⟩ := hR6
            exact ⟨⟨j + 1, v1, tv6, by omega, by go_num, hkV5.next hk6 (fun x hx => by
              simp only [List.mem_cons] at hx
              rcases hx with rfl | rfl | hx
              · left; simp
              · left; simp
              · right; exact own_ge R5.out.own (by simpa using hx)), Lib.hid (by rw [HST.out, edg_ad HEB.out (fun c _ hc => by rw [HEC.out, Int.toNat_natCast] at hc; rw [← hc]; exact HRC.out)]; exact hR6)⟩, by simp [intOf]; omega⟩
        · have HRET : Hid (¬ (ek = 3 ∨ ek = 4)) := Lib.hid hret
          have HV : Hid (false = (decide (ek = 3) || decide (ek = 4))) := Lib.hid (by simp; omega)
          clear hret
          go_upto_region 19 with fail
          refine (returns_any ea eb ek ec false HV.out _).mono ?_
          rintro e w5 ⟨rfl, hb5⟩
          have R5 := Lib.hid (R1.out.same ((Kept.refl _ _).call hb5))
          have B5 := Lib.hid (HBY.out.later hb5)
          have ⟨Ly5, Cy5, Fy5⟩ := B5.out
          have hkV5 : Kept [t8, gr, gw] V w5 := hkV1.next ((Kept.refl [] X1).call hb5) (by simp)
          go_upto_region 19 with fail
          clear Cy Fy
          have hst : s1.t.length ≤ 1000000 := by have := HSM.out.1; omega
          go_wp2_with (go_at_call 56; refine (radd_any _ t6 t8 gr gw n1 eb _ _ _ _ R5.out heb1 hst).mono ?_; rintro e w6 ⟨rfl, hR6, hk6⟩)
          obtain ⟨tv6, hR6⟩ := hR6
          exact ⟨⟨j + 1, v1, tv6, by omega, by go_num, hkV5.next hk6 (fun x hx => by
            simp only [List.mem_cons] at hx
            rcases hx with rfl | rfl | hx
            · left; simp
            · left; simp
            · right; exact own_ge R5.out.own (by simpa using hx)), Lib.hid (by rw [HST.out, edg_ad HEB.out (fun c h3 _ => absurd (by rw [HEK.out] at h3; exact h3) HRET.out)]; exact hR6)⟩, by simp [intOf]; omega⟩
      · obtain rfl : mo = j := by omega
        rw [HMO.out, List.take_length] at RQ
        have RA : Hid (Rm 3 V.heap.size wq t6 t8 gr gw n1 v1 tv1 (after es s n)) := RQ
        obtain ⟨Aw, cw, hvw, hIw, _⟩ := Ints.of_own (RA.out.wt.own n hlt)
        obtain ⟨mw, hmw⟩ : ∃ mw, mw = (ofNats ((after es s n).w n)).length := ⟨_, rfl⟩
        rw [← hmw] at hvw hIw
        have cw1 := RA.out.wt.cell n hlt
        rw [hvw] at cw1
        have gwq : gw < wq.heap.size := Nat.lt_of_lt_of_le RA.out.lw RA.out.hlim
        have hmw1 : mw ≤ 600000000 := by rw [hmw, Df.ofNats_len]; exact (LF.out.adds 0).2 n
        have HVW := Lib.hid hvw
        have HMW := Lib.hid hmw
        clear hvw hIw hmw RQ
        go_upto_region 22 with fail
        -- MARK15
        go_loopw [97] (fun s97 wz => ∃ (i : Nat) (tv' : Value), i ≤ mw ∧ s97 = .int .i64 i ∧ Kept [t8, gr, gw] V wz ∧ Hid (Rm 3 V.heap.size wz t6 t8 gr gw n1 v1 tv' ((((after es s n).w n).take i).foldl Rc.ad (after es s n)))) (fun s97 _ => mw - (intOf s97).toNat)
        case atStart => exact ⟨0, tv1, Nat.zero_le _, rfl, hkq, RA⟩
        case round =>
        clear RA hkq cw1 gwq
        rename World => wz
        obtain ⟨i, tv2, hi, rfl, hkz, RZ⟩ := hrel
        by_cases hlt3 : i < mw
        · obtain ⟨A', c', h1, h2, _⟩ := Ints.of_own (RZ.out.wt.own n hlt)
          rw [HVW.out] at h1
          injection h1 with e1 e2 e3
          subst e1
          rw [adds_w] at h2
          have h2' := h2.2 (by have := HMW.out; omega)
          obtain ⟨bw, ow, rfl, hlw, hcw⟩ := h2'
          have hil : i < ((after es s n).w n).length := by have := HMW.out; rw [Df.ofNats_len] at this; omega
          have hcj := hcw i (by have := HMW.out; omega)
          obtain ⟨b, hb⟩ : ∃ b, ((after es s n).w n)[i] = b := ⟨_, rfl⟩
          rw [show gi (ofNats ((after es s n).w n)) i = (b : Int) by simp [gi, ofNats, hil, hb]] at hcj
          have hbn : b < n1 := LF.out.mem b (by rw [← hb]; exact List.getElem_mem hil)
          have HST : Hid (((((after es s n).w n).take (i + 1)).foldl Rc.ad (after es s n)) = Rc.ad ((((after es s n).w n).take i).foldl Rc.ad (after es s n)) b) := Lib.hid (by rw [take_fold _ _ hil, hb])
          have hst : ((((after es s n).w n).take i).foldl Rc.ad (after es s n)).t.length ≤ 1000000 := by have := (LF.out.adds i).1; omega
          have hin : (i : Int) < (mw : Int) := by omega
          clear h2 hcw hb hil e2 e3
          go_wp2_with (go_at_call 56; refine (radd_any _ t6 t8 gr gw n1 b _ _ _ _ RZ.out hbn hst).mono ?_; rintro e w6 ⟨rfl, hR6, hk6⟩)
          obtain ⟨tv6, hR6⟩ := hR6
          exact ⟨⟨i + 1, tv6, by omega, by go_num, hkz.next hk6 (fun x hx => by
            simp only [List.mem_cons] at hx
            rcases hx with rfl | rfl | hx
            · left; simp
            · left; simp
            · right; exact own_ge RZ.out.own (by simpa using hx)), Lib.hid (by rw [HST.out]; exact hR6)⟩, by simp [intOf]; omega⟩
        · obtain rfl : mw = i := by omega
          have hE2 : ((after es s n).w n).take mw = (after es s n).w n := List.take_of_length_le (by have := HMW.out; rw [Df.ofNats_len] at this; omega)
          rw [hE2] at RZ
          have RL : Hid (Rm 3 V.heap.size wz t6 t8 gr gw n1 v1 tv2 (Rc.look es (popd s) n)) := RZ
          have hlm : PM (meaR n1 (Rc.look es (popd s) n)) wz := by
            rw [HPM.out]
            exact ⟨_, _, _, RL.out, LF.out.ri, LF.out.bw, rfl, hkz⟩
          have hl2 := leastM_le hlm
          have HLM := Lib.hid hlm
          have HL2 := Lib.hid hl2
          clear hlm hl2 hE2
          go_wp2_with fail
          refine ⟨⟨_, HLM.out⟩, ?_⟩
          have h1 := HL2.out; have h2 := LF.out.mea; have h4 := HME.out; have h5 := HLV.out
          omega
  · have h0' : (se != 0) = true := by simpa using h0
    have H0 := Lib.hid h0
    clear h0
    go_wp2_with fail
    go_returns
    -- MARK9
    exact ⟨(kept_fresh hkW hk1 (by simp)).toBelow, .inl ⟨by rw [HSE.out]; exact H0.out, by rw [HSE.out]; rfl⟩⟩
end Go.Proofs.Ytffkikhknabddaa
