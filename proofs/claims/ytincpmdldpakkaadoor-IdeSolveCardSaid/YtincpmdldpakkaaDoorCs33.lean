/- Texts: Am. -/
import Derived.Test.YtincpmdldpakkaaDoorCs32
namespace Go.Df
open Go.RowKit
namespace Iv
open Sp
def ucel (g : Nat → U) (j : Nat) : List Value := (List.range j).flatMap fun d => [.int .i64 (g d).1.k, .int .i64 (g d).1.n]
theorem ucel_succ (g : Nat → U) (j : Nat) : ucel g (j + 1) = ucel g j ++ [.int .i64 (g j).1.k, .int .i64 (g j).1.n] := by unfold ucel; rw [List.range_succ, List.flatMap_append]; rfl
theorem ucel_len (g : Nat → U) : ∀ j, (ucel g j).length = j * 2
  | 0 => rfl
  | j + 1 => by rw [ucel_succ, List.length_append, ucel_len g j, Nat.add_mul]; rfl
theorem ucel_at (g : Nat → U) : ∀ (j : Nat) {d : Nat}, d < j → (ucel g j)[d * 2]? = some (.int .i64 (g d).1.k) ∧ (ucel g j)[d * 2 + 1]? = some (.int .i64 (g d).1.n)
  | j + 1, d, h => by
    rw [ucel_succ]
    have hl := ucel_len g j
    by_cases e : d = j
    · subst e
      rw [List.getElem?_append_right (by omega), List.getElem?_append_right (by omega), hl]
      refine ⟨?_, ?_⟩
      · rw [Nat.sub_self]; rfl
      · rw [show d * 2 + 1 - d * 2 = 1 by omega]; rfl
    · rw [List.getElem?_append_left (by omega), List.getElem?_append_left (by omega)]
      exact ucel_at g j (by omega)
def EmU (base : Nat) (tb : TypeId) (f : Nat) (S : Nat → Nat → U) (bs : Nat → Nat) (n : Nat) (w : World) : Prop :=
  (∀ x, x < n → base ≤ bs x ∧ Tag w (bs x) tb ∧ ∀ d, d < f → w.cell? ⟨bs x, d * 2, none⟩ = some (.int .i64 (S x d).1.k) ∧ w.cell? ⟨bs x, d * 2 + 1, none⟩ = some (.int .i64 (S x d).1.n)) ∧ ∀ x y, x < n → y < n → bs x = bs y → x = y
theorem EmU.kept {base : Nat} {tb : TypeId} {f n : Nat} {S : Nat → Nat → U} {bs : Nat → Nat} {X : List Nat} {w w' : World} (h : EmU base tb f S bs n w) (hk : Kept X w w') (hX : ∀ x, x < n → bs x ∉ X) : EmU base tb f S bs n w' :=
  ⟨fun x hx => by
    obtain ⟨h1, h2, h3⟩ := h.1 x hx
    exact ⟨h1, h2.same (hk.block _ h2.lt (hX x hx)), fun d hd => ⟨(hk.cell _ _ h2.lt (hX x hx)).trans (h3 d hd).1, (hk.cell _ _ h2.lt (hX x hx)).trans (h3 d hd).2⟩⟩, h.2⟩
theorem EmU.snoc {base : Nat} {tb : TypeId} {f n g : Nat} {S : Nat → Nat → U} {bs : Nat → Nat} {w : World} (h : EmU base tb f S bs n w) (hg : base ≤ g) (ht : Tag w g tb) (hc : ∀ d, d < f → w.cell? ⟨g, d * 2, none⟩ = some (.int .i64 (S n d).1.k) ∧ w.cell? ⟨g, d * 2 + 1, none⟩ = some (.int .i64 (S n d).1.n)) (hn : ∀ x, x < n → bs x ≠ g) : EmU base tb f S (updN bs n g) (n + 1) w := by
  refine ⟨fun x hx => ?_, fun x y hx hy e => ?_⟩
  · unfold updN
    by_cases e : x = n
    · rw [if_pos e, e]; exact ⟨hg, ht, hc⟩
    · rw [if_neg e]; exact h.1 x (by omega)
  · unfold updN at e
    by_cases e1 : x = n
    · by_cases e2 : y = n
      · omega
      · rw [if_pos e1, if_neg e2] at e; exact absurd e.symm (hn y (by omega))
    · by_cases e2 : y = n
      · rw [if_neg e1, if_pos e2] at e; exact absurd e (hn x (by omega))
      · rw [if_neg e1, if_neg e2] at e; exact h.2 x y (by omega) (by omega) e
end Iv
end Go.Df
namespace Go.Proofs.YtincpmdldpakkaaDoor
open Go.RowKit Go.Df Go.Df.Iv Go.Df.Sp
attribute [local go_sem ↓] Go.wp_at_zero Go.wp_at_succ
theorem Rd.new2v (w : World) (b : Nat) (u0 u1 : Value) (t : TypeId) (hb : b = w.heap.size) : Rd (w.alloc (.cells #[u0, u1] t)) 2 (some ⟨b, 0, none⟩) 1 [u0, u1] := Rd.new2 w b u0 u1 t hb
theorem val_info9 : (Tryd.prog.info? 56).map (fun i => (i.zero, i.size, i.bytes)) = some (some (.agg #[.int .i64 0, .int .i64 0]), 2, 16) := by kernel_rfl
theorem rowv_info : (Tryd.prog.info? 66).map (fun i => (i.zero, i.size, i.bytes)) = some (some (.slice none 0 0), 1, 24) := by kernel_rfl
theorem Inp.kept9 {p : Vb} {K : Kn} {w w' : World} (h : Inp p K w) (hk : Kept [] w w') : Inp p K w' := by
  have hb := hk.toBelow
  refine ⟨h.nd.later hb, h.ed.later hb, h.fl.later hb, h.sd.later hb, fun b o i A n c e hi hc => ?_⟩
  obtain ⟨b', o', e', hl, hc'⟩ := h.fl.2 (by omega)
  rw [e] at e'
  injection e' with e'
  injection e' with e1 e2
  subst e1 e2
  exact h.fc b o i A n c e hi ((hb.cell (p := ⟨b, _, none⟩) hl).symm.trans hc)
def GetU (p : Vb) (N f : Nat) (w : World) (e : Ending) (w' : World) : Prop :=
  ∃ (go cc : Nat) (rw rc : Nat → Nat) (S : Nat → Nat → U), e = .returned (.tuple #[.agg #[.slice (some ⟨go, 0, none⟩) N cc], .int .i64 0]) ∧ Vw N f w' go rw rc S ∧ IsSol p S ∧ Below w.heap.size w w'
set_option maxRecDepth 100000 in
set_option maxHeartbeats 80000000 in
theorem rsolve33_ok {p : Vb} {K : Kn} (w : World) (mN f : Nat) (hI : Inp p K w) (ho : VOk p) (hfit : VFit p) (hmn : p.mn = (mN : Int)) (hF : p.F = (f : Int)) (hn4 : K.n4 ≤ 1000000)
    (hchk : ∀ w1, Below w.heap.size w w1 → Calls Tryd.prog 8 #[.agg #[.slice K.A1 K.n1 K.c1, .slice K.A2 K.n2 K.c2, .int .i64 (mN : Nat), .int .i64 (f : Nat), .slice K.A3 K.n3 K.c3, .slice K.A4 K.n4 K.c4]] w1 fun e w' => e = .returned (.int .i64 0) ∧ Below w1.heap.size w1 w') :
    Calls Tryd.prog 12 #[.agg #[.slice K.A1 K.n1 K.c1, .slice K.A2 K.n2 K.c2, .int .i64 (mN : Nat), .int .i64 (f : Nat), .slice K.A3 K.n3 K.c3, .slice K.A4 K.n4 K.c4]] w (GetU p K.n1 f w) := by
  obtain ⟨i0, hi, hz0, hz1, hz2⟩ := info_parts val_info9
  obtain ⟨i1, hj, hy0, hy1, hy2⟩ := info_parts rowv_info
  have hN1 : K.n1 = p.ns.length := hI.nd.1.symm
  have hN8 : K.n1 ≤ 8192 := by have := (If.sup_parts ho.sup).1; omega
  have hf8 : f ≤ 1024 := by have := ho.f2; omega
  have hf1 : 0 < f := by have := ho.f1; omega
  have hmain := If.main_in (If.sup_parts ho.sup).2.2.1
  have hmN : mN < K.n1 := by omega
  have hN0 : 0 < K.n1 := by omega
  have HI := Lib.hid hI
  have HO := Lib.hid ho
  have HFI := Lib.hid hfit
  have HMN := Lib.hid hmn
  have HEF := Lib.hid hF
  have HFE : Hid (p.F.toNat = f) := by show _ = _; rw [hF, Int.toNat_natCast]
  have HEN := Lib.hid hN1
  have HES := Lib.hid hI.ed.1
  have HCHK := Lib.hid hchk
  clear hI ho hfit hmn hF hN1 hmain hchk
  go_enter Tryd.func12, Tryd.ntmps12
  go_upto_region 1 with fail
  refine wp_named (fun W => ∃ b0 b1, w.heap.size = b0 ∧ w.heap.size + 1 = b1 ∧ Blk W b0 [.slice K.A1 K.n1 K.c1, .slice K.A2 K.n2 K.c2, .int .i64 (mN : Nat), .int .i64 (f : Nat), .slice K.A3 K.n3 K.c3, .slice K.A4 K.n4 K.c4] ∧ Blk W b1 [.slice none 0 0] ∧ Below w.heap.size w W) ⟨_, _, rfl, rfl, ?_, ?_, ?_⟩ ?_
  · exact (Blk.new _ _ _ _ (by first | rfl | simp)).alloc _
  · exact Blk.new _ _ _ _ (by first | rfl | simp)
  · go_grown
  rintro W ⟨b0, b1, e0, e1, B0, B1, hB⟩
  rw [e1, e0]
  have G0 : w.heap.size ≤ b0 := by omega
  have n01 : b0 ≠ b1 := by omega
  have G1 : w.heap.size ≤ b1 := by omega
  have n10 : b1 ≠ b0 := by omega
  clear e0 e1
  have ⟨L0, C0, F0⟩ := B0
  have ⟨L1, C1, F1⟩ := B1
  have hkW : Kept [] w W := (Kept.refl _ _).call hB
  go_upto_region 4 with (go_at_call 8; refine (HCHK.out _ hB).mono ?_; rintro e w1 ⟨rfl, hb1⟩)
  have hk1 : Kept [] w w1 := hkW.call hb1
  have hkW1 : Kept [] W w1 := (Kept.refl _ _).call hb1
  have ⟨L01, C01, F01⟩ := hkW1.blk (by simp) B0
  have HJ : Hid (∀ w9, Kept [] w w9 → Calls Tryd.prog 33 #[.agg #[.slice K.A1 K.n1 K.c1, .slice K.A2 K.n2 K.c2, .int .i64 (mN : Nat), .int .i64 (f : Nat), .slice K.A3 K.n3 K.c3, .slice K.A4 K.n4 K.c4]] w9 (GetJ p K mN f w9)) := fun w9 hk9 => rjump_any w9 mN f (HI.out.kept9 hk9) HO.out HFI.out HMN.out HEF.out hn4
  clear C0 F0 C1 F1
  go_upto_region 5 with (go_at_call 33; refine (HJ.out _ hk1).mono ?_; rintro e w2 ⟨go, cN, rw, rc, T, rfl, hT, hC, hS, hb2, hrw, hgo⟩)
  have HC := Lib.hid hC
  have HSN := Lib.hid hS
  have hk2 : Kept [] w w2 := hk1.call hb2
  refine wp_named (fun V => ∃ g, w2.heap.size = g ∧ Blk V g [.slice K.A1 K.n1 K.c1, .slice K.A2 K.n2 K.c2, .int .i64 (mN : Nat), .int .i64 (f : Nat), .slice K.A3 K.n3 K.c3, .slice K.A4 K.n4 K.c4, .slice (some ⟨go, 0, none⟩) K.n1 cN] ∧ Kept [] w2 V) ⟨_, rfl, Blk.new _ _ _ _ rfl, (Kept.refl _ _).alloc _⟩ ?_
  rintro V2 ⟨gt, eg, Bgt, hkV2⟩
  rw [eg]
  have hkV : Kept [] w V2 := keptTrans hk2 hkV2
  have hk1V : Kept [] w1 V2 := keptTrans ((Kept.refl _ _).call hb2) hkV2
  have ⟨L0V, C0V, F0V⟩ := hk1V.blk (by simp) (hkW1.blk (by simp) B0)
  have ⟨LtV, CtV, FtV⟩ := Bgt
  have HTV := Lib.hid (hT.keep hkV2)
  have HRW : Hid (∀ n, n < K.n1 → w.heap.size ≤ rw n) := Lib.hid (fun n hn => Nat.le_trans hk1.size (hrw n hn))
  have HGO : Hid (w.heap.size ≤ go) := Lib.hid (Nat.le_trans hk1.size hgo)
  have hwgt : w.heap.size ≤ gt := by have := hk2.size; omega
  have HST : Hid (∀ w9, Kept [] w w9 → Calls Tryd.prog 34 #[.agg #[.slice K.A1 K.n1 K.c1, .slice K.A2 K.n2 K.c2, .int .i64 (mN : Nat)]] w9 fun e w' => ∃ A c, e = .returned (.slice A K.n1 c) ∧ SIn w' A K.n1 c (ofNats (stL p.ns K.n1)) ∧ Fr w9 w' A ∧ Below w9.heap.size w9 w') := fun w9 hk9 => rstarts_any _ _ _ _ _ _ _ p.ns w9 (HI.out.nd.later hk9.toBelow) HO.out.pf.nd hN8 hN0
  have HBt := Lib.hid Bgt
  have HB0V := Lib.hid (hk1V.blk (by simp) (hkW1.blk (by simp) B0))
  have HB1V := Lib.hid (hk1V.blk (by simp) (hkW1.blk (by simp) B1))
  clear C01 F01 eg Bgt hT hC hS hrw hgo
  go_upto_region 6 with (go_at_call 34; refine (HST.out _ hkV).mono ?_; rintro e w3 ⟨As, cs, rfl, hSt, hFr, hb3⟩)
  have hk3 : Kept [] V2 w3 := (Kept.refl _ _).call hb3
  have hkw3 : Kept [] w w3 := keptTrans hkV hk3
  have HT3 := Lib.hid (HTV.out.keep hk3)
  have HS3 := Lib.hid hSt
  have HF3 : Hid (∀ a, As = some a → w.heap.size ≤ a.block ∧ a.block < w3.heap.size) := Lib.hid (fun a ha => ⟨Nat.le_trans hkV.size (hFr a ha).1, (hFr a ha).2⟩)
  have HBt3 := Lib.hid (hk3.blk (by simp) HBt.out)
  have HB03 := Lib.hid (hk3.blk (by simp) HB0V.out)
  have HB13 := Lib.hid (hk3.blk (by simp) HB1V.out)
  have ⟨L03, C03, F03⟩ := HB03.out
  clear C0V F0V CtV FtV hSt hFr
  go_wp2_with fail
  go_loopw [7, 8] (fun s7 s8 wr => ∃ (n : Nat) (A : Option Addr) (cA : Nat) (bs rc : Nat → Nat), n ≤ K.n1 ∧ s7 = .slice A n cA ∧ s8 = .int .i64 n ∧ Kept [] w3 wr ∧ Hid (wr.ownsRow w3.heap.size 66 1 (.slice A n cA) n ((List.range n).map fun x => Value.slice (some ⟨bs x, 0, none⟩) f (rc x))) ∧ Hid (EmV (.int .i64 0) w3.heap.size 56 (f * 2) bs n wr)) (fun _ s8 _ => K.n1 - (intOf s8).toNat)
  case atStart => exact ⟨0, none, 0, fun _ => 0, fun _ => 0, Nat.zero_le _, rfl, rfl, Kept.refl _ _, Lib.hid (World.ownsRow_nil _ _ _ _), Lib.hid ⟨fun x h => absurd h (by omega), fun x y h => absurd h (by omega)⟩⟩
  case round =>
  rename World => wr
  clear C03 F03
  obtain ⟨n, A, cA, bs, rc2, hn, rfl, rfl, hkr, own, EM⟩ := hrel
  have BR0 := hkr.blk (by simp) HB03.out
  have ⟨L0r, C0r, F0r⟩ := BR0
  have hsz := hkr.size
  by_cases hlt : n < K.n1
  case pos =>
    have hn9 : (n : Int) < (K.n1 : Int) := by omega
    have HXA : Hid (∀ y ∈ (Value.slice A n cA).ownBlock.toList, w3.heap.size ≤ y) := (fun y hy => own_ge own.out (by simpa using hy))
    go_wp2_with fail
    go_loopw [9, 10] (fun s9 s10 wq => ∃ (j : Nat) (A' : Option Addr) (c' : Nat), j ≤ f ∧ s9 = .slice A' j c' ∧ s10 = .int .i64 j ∧ Kept [] wr wq ∧ Hid (wq.ownsRow wr.heap.size 56 2 (.slice A' j c') j (List.replicate (j * 2) (Value.int .i64 0)))) (fun _ s10 _ => f - (intOf s10).toNat)
    case atStart => exact ⟨0, none, 0, Nat.zero_le _, rfl, rfl, Kept.refl _ _, Lib.hid (World.ownsRow_nil _ _ _ _)⟩
    case round =>
    rename World => wq
    clear C0r F0r
    obtain ⟨j, A', c', hj', rfl, rfl, hkq, ownq⟩ := hrel
    have ⟨L0q, C0q, F0q⟩ := hkq.blk (by simp) BR0
    have hsq := hkq.size
    by_cases hltj : j < f
    · have HAP := Lib.hid (rep_snoc2 (Value.int .i64 0) j)
      have hj9 : (j : Int) < (f : Int) := by omega
      go_wp2_with (at_builtin; refine wpList_append_rd _ rfl _ _ 66 rfl wr.heap.size 56 i0 (.agg #[.int .i64 0, .int .i64 0]) 2 16 Tryd.underlying66 hi hz0 hz1 hz2 rfl (by decide) (.slice A' j c') j (List.replicate (j * 2) (Value.int .i64 0)) rfl (own_keptT (X := []) ownq.out ((Kept.refl _ _).alloc _) (by simp)) (some ⟨wq.heap.size, 0, none⟩) 1 1 [.int .i64 0, .int .i64 0] rfl (Rd.new2v _ _ _ _ _ rfl) (fun h => by cases h) (by intro u hu; simp at hu; subst hu; rfl) (j + 1) rfl (List.replicate ((j + 1) * 2) (Value.int .i64 0)) HAP.out (by unfold maxLen; omega) (by omega) (by simp; omega) ?_; intro A9 c9 w4 hown4 hk4 hat4; have HX : Hid (∀ y ∈ (Value.slice A' j c').ownBlock.toList, wr.heap.size ≤ y) := (fun y hy => own_ge ownq.out (by simpa using hy)); have hk5 := Lib.hid ((hkq.alloc (.cells #[.int .i64 0, .int .i64 0] 56)).next hk4 (fun y hy => Or.inr (HX.out y hy))); have HO4 := Lib.hid hown4; clear hown4 hk4 hat4)
      exact ⟨⟨j + 1, A9, c9, by omega, rfl, by go_num, hk5.out, HO4⟩, by simp [intOf]; omega⟩
    obtain rfl : j = f := by omega
    obtain ⟨g', cr, hv, hbr, hgl, -, -, hcell, -⟩ := own_cellsT ownq.out hf1
    have htg : Tag wq g' 56 := own_tag ownq.out (by rw [hv]; rfl)
    injection hv with e1 e2 e3
    subst e1
    subst e3
    have HCL : Hid (∀ i, i < j * 2 → wq.cell? ⟨g', i, none⟩ = some (.int .i64 0)) := Lib.hid (fun i hi => by rw [hcell i hi, List.getElem?_replicate, if_pos hi])
    have HTG := Lib.hid htg
    have OWQ := Lib.hid (own_keptT (X := []) own.out hkq (by simp))
    have EMq := Lib.hid (EM.out.kept hkq (by simp))
    have HAB := Lib.hid (rows_snoc bs rc2 j n g' c')
    clear hcell htg
    go_wp2_with (at_builtin; refine wpList_append_rd _ rfl _ _ 34 rfl w3.heap.size 66 i1 (.slice none 0 0) 1 24 Tryd.underlying34 hj hy0 hy1 hy2 rfl (by decide) (.slice A n cA) n _ rfl (own_keptT (X := []) OWQ.out ((Kept.refl _ _).alloc _) (by simp)) (some ⟨wq.heap.size, 0, none⟩) 1 1 [.slice (some ⟨g', 0, none⟩) j c'] rfl (Rd.new1 _ _ _ _ rfl) (fun h => by cases h) (by intro u hu; simp at hu; subst hu; rfl) (n + 1) rfl _ HAB.out (by unfold maxLen; omega) (by omega) (by simp; omega) ?_; intro A9 c9 w4 hown4 hk4 hat4; have hkA : Kept (Value.slice A n cA).ownBlock.toList wq w4 := ((Kept.refl _ wq).alloc _).next hk4 (fun y hy => Or.inl hy); have HO4 := Lib.hid hown4; have HKA := Lib.hid hkA; clear hown4 hk4 hat4)
    have hbA : ∀ x, x < n + 1 → updN bs n g' x ∉ (Value.slice A n cA).ownBlock.toList := fun x hx hm => by
      have h1 : (Value.slice A n cA).ownBlock = some (updN bs n g' x) := by simpa using hm
      have h2 := own_tag OWQ.out h1
      unfold updN at h2
      by_cases e : x = n
      · rw [if_pos e] at h2; exact absurd rfl (HTG.out.ne h2 (by decide))
      · rw [if_neg e] at h2; exact absurd rfl ((EMq.out.1 x (by omega)).2.1.ne h2 (by decide))
    have EM2 := EMq.out.snoc (g := g') (by omega) HTG.out HCL.out (fun x hx e => by
      have h1 := (EM.out.1 x hx).2.1.lt
      omega)
    have EM3 := EM2.kept HKA.out hbA
    exact ⟨⟨n + 1, A9, c9, updN bs n g', updN rc2 n c', by omega, rfl, by go_num, (hkr.next hkq (by simp)).next HKA.out (fun y hy => Or.inr (HXA.out y hy)), HO4, Lib.hid EM3⟩, by simp [intOf]; omega⟩
  obtain rfl : n = K.n1 := by omega
  obtain ⟨go2, cr, hv, hbr, hgl, -, -, hcell, -⟩ := own_cellsT own.out hN0
  have htr : Tag wr go2 66 := own_tag own.out (by rw [hv]; rfl)
  injection hv with e1 e2 e3
  subst e1
  subst e3
  have VWR : Vw K.n1 f wr go2 bs rc2 (fun _ _ => topV) := by
    refine ⟨hgl, fun x hx => ?_, fun x a hx ha => ?_, fun x i hx => (EM.out.1 x hx).2.1.frozen i, fun x hx => (EM.out.1 x hx).2.1.lt, fun x y hx hy e => EM.out.2 x y hx hy e, fun x hx => (EM.out.1 x hx).2.1.ne htr (by decide)⟩
    · rw [hcell x (by omega)]
      simp [hx]
    · exact ⟨(EM.out.1 x hx).2.2 _ (by omega), (EM.out.1 x hx).2.2 _ (by omega)⟩
  have HVWR := Lib.hid VWR
  have HBS3 : Hid (∀ x, x < K.n1 → w3.heap.size ≤ bs x) := Lib.hid (fun x hx => (EM.out.1 x hx).1)
  have HGO2 : Hid (w3.heap.size ≤ go2) := Lib.hid hbr
  have hrowm := VWR.row mN hmN
  have hcelm := VWR.cell mN 0 hmN hf1
  have hfrm0 := VWR.fr mN 0 hmN
  have hfrm1 := VWR.fr mN 1 hmN
  have hltm := VWR.lt mN hmN
  obtain ⟨rm, hrm⟩ : ∃ r, bs mN = r := ⟨_, rfl⟩
  obtain ⟨km, hkm⟩ : ∃ r, rc2 mN = r := ⟨_, rfl⟩
  rw [hrm, hkm] at hrowm
  rw [hrm] at hcelm hfrm0 hfrm1 hltm
  have HRM := Lib.hid hrm
  obtain ⟨hcm0, hcm1⟩ := hcelm
  rw [Nat.zero_mul] at hcm0 hcm1
  have hmN9 : (mN : Int) < (K.n1 : Int) := by omega
  have hf9 : (0 : Int) < (f : Int) := by omega
  have hwr : Kept [] w wr := keptTrans hkw3 hkr
  have HBt4 := hkr.blk (by simp) HBt3.out
  have HB14 := hkr.blk (by simp) HB13.out
  have HT4 := Lib.hid (HT3.out.keep hkr)
  clear hcell htr own EM VWR hrm hkm
  go_upto_region 17 with fail
  refine wp_named (fun Z => Vw K.n1 f Z go2 bs rc2 (V0s p) ∧ Kept [bs mN] wr Z) ⟨by
    have h9 := HVWR.out.put hmN hf1 botV (i := 0) (by rw [Nat.zero_mul])
    rw [HRM.out] at h9
    have e9 : vput (fun _ _ => topV) mN 0 botV = V0s p := by unfold V0s; rw [HMN.out, Int.toNat_natCast]
    rw [e9] at h9
    exact h9, by rw [HRM.out]; exact ((Kept.refl [rm] wr).set rm _ _ (.inl (by simp))).set rm _ _ (.inl (by simp))⟩ ?_
  rintro Z ⟨VZ, hkZ⟩
  have hbsW : Hid (∀ x, RowO K.n1 bs x → w.heap.size ≤ x) := fun x ⟨n, hn, e⟩ => by have := HBS3.out n hn; have := hkw3.size; omega
  have FZ : Hid (Fx (RowO K.n1 bs) (RowO K.n1 bs) wr Z) := RowO.fx hmN hkZ
  have hnoO : ∀ x, x < w3.heap.size → ¬ RowO K.n1 bs x := fun x hx ⟨n, hn, e⟩ => by have := HBS3.out n hn; omega
  have hw3r := hkr.size
  have SB0 : Hid (SafeB (RowO K.n1 bs) wr b0) := ⟨L0r, hnoO _ L03⟩
  have SBt : Hid (SafeB (RowO K.n1 bs) wr gt) := ⟨HBt4.1, hnoO _ HBt3.out.1⟩
  have SB1 : Hid (SafeB (RowO K.n1 bs) wr b1) := ⟨HB14.1, hnoO _ HB13.out.1⟩
  have LNR : Hid (Ln p K.n1 f wr (RowO K.n1 bs) go rw rc T As cs) := Lib.hid ⟨HT4.out, ⟨HT4.out.glt, hnoO _ HT3.out.glt⟩, fun n hn => ⟨HT4.out.lt n hn, hnoO _ (HT3.out.lt n hn)⟩, ⟨HS3.out.kept hkr, fun _ a ha => ⟨Nat.lt_of_lt_of_le (HF3.out a ha).2 hkr.size, hnoO _ (HF3.out a ha).2⟩⟩⟩
  have HRI : Hid (Rin p K w K.n1 f go rw) := Lib.hid ⟨HI.out, HO.out, HFI.out, HEN.out, rfl, HEF.out, HRW.out, HGO.out⟩
  have HLR := Lib.hid hwr.toBelow
  have HVZ := Lib.hid VZ
  have HB0r := Lib.hid BR0
  have HBtr := Lib.hid HBt4
  have HB1r := Lib.hid HB14
  clear C0r F0r hrowm hcm0 hcm1 hfrm0 hfrm1 VZ hkZ
  obtain ⟨PM, hPM⟩ : ∃ PM : Nat → World → Prop, PM = fun u wx => ∃ V, Vw K.n1 f wx go2 bs rc2 V ∧ VSnd p T V ∧ leV (V p.mn.toNat 0) botV ∧ muV p V = u := ⟨_, rfl⟩
  have HPM := Lib.hid hPM
  have hPM0 : Hid (∃ u, PM u Z) := Lib.hid (by rw [hPM]; exact ⟨_, _, HVZ.out, V0s_snd p T, V0s_main p, rfl⟩)
  clear hPM
  have ⟨L0Z, C0Z, F0Z⟩ := SB0.out.blk FZ.out HB0r.out
  have ⟨LtZ, CtZ, FtZ⟩ := SBt.out.blk FZ.out HBtr.out
  go_wp2_with fail
  go_loopw [11] (fun s11 wx => ∃ (mo : Bool), s11 = .bool mo ∧ Hid (Fx (RowO K.n1 bs) (RowO K.n1 bs) wr wx) ∧ Hid (mo = true → ∃ u, PM u wx) ∧ Hid (mo = false → ∃ V', Vw K.n1 f wx go2 bs rc2 V' ∧ VClo p T V' ∧ VSnd p T V')) (fun s11 wx => 2 * leastM PM wx + truthOf s11)
  case atStart => exact ⟨true, rfl, FZ, Lib.hid (fun _ => hPM0.out), Lib.hid (fun h => by cases h)⟩
  case round =>
  rename World => wx
  clear C0Z F0Z CtZ FtZ HVZ
  obtain ⟨mo, rfl, FX, hex, hdone⟩ := hrel
  have ⟨L0x, C0x, F0x⟩ := SB0.out.blk FX.out HB0r.out
  have ⟨Ltx, Ctx, Ftx⟩ := SBt.out.blk FX.out HBtr.out
  have HLX := Lib.hid (FX.out.below HLR.out hbsW.out)
  have LNX := Lib.hid (LNR.out.fx FX.out)
  cases mo with
  | true =>
    have hsp := leastM_spec (hex.out rfl)
    obtain ⟨lv9, hlv⟩ : ∃ lv, leastM PM wx = lv := ⟨_, rfl⟩
    rw [hlv] at hsp
    have HLV := Lib.hid hlv
    rw [show PM = _ from HPM.out] at hsp
    obtain ⟨V0, hV0, hs0, hm0, hu0⟩ := hsp
    have VX := Lib.hid hV0
    have HS0 := Lib.hid hs0
    have HM0 := Lib.hid hm0
    have HU0 := Lib.hid hu0
    clear hlv hV0 hs0 hm0 hu0 hex hdone
    have HLW : Hid (∀ w9, Kept [] wx w9 → Calls Tryd.prog 35 #[.agg #[.slice K.A1 K.n1 K.c1, .slice K.A2 K.n2 K.c2, .int .i64 (mN : Nat), .int .i64 (f : Nat), .slice K.A3 K.n3 K.c3, .slice K.A4 K.n4 K.c4, .slice (some ⟨go, 0, none⟩) K.n1 cN], .slice As K.n1 cs, .slice (some ⟨go2, 0, none⟩) K.n1 cA] w9 fun e w' => ∃ b V', e = .returned (.bool b) ∧ Vw K.n1 f w' go2 bs rc2 V' ∧ Fx (RowO K.n1 bs) (RowO K.n1 bs) wx w' ∧ Rv p T V0 V' b ∧ (b = false → VClo p T V0)) := fun w9 hk9 =>
      (rlower_any w9 HRI.out (HLX.out.trans (hk9.toBelow.mono HLX.out.size)) (LNX.out.fx (Fx.same hk9)) (VX.out.keep hk9) (fun n hn => by have := HBS3.out n hn; have := hkw3.size; omega)).mono (fun e w' ⟨b, V', h1, h2, h3, h4, h5⟩ => ⟨b, V', h1, h2, (Fx.same hk9).trans h3, h4, fun hb => low_clo (fun n a d ha => LNX.out.tw.top n a d (fun h9 => ha (by rw [HFE.out]; exact h9.2.1))) HM0.out (h5 hb)⟩)
    go_wp2_with (go_at_call 35; refine (HLW.out _ (by (exact kpt0))).mono ?_; rintro e w4 ⟨b9, V9, rfl, hV9, hF9, hR9, hQ9⟩)
    have hPM9 : PM (muV p V9) w4 := by rw [show PM = _ from HPM.out]; exact ⟨V9, hV9, hR9.snd HS0.out, leV_trans (hR9.le _ _) HM0.out, rfl⟩
    have hle := leastM_le hPM9
    cases b9 with
    | true =>
      have hlt9 := hR9.less rfl
      refine ⟨⟨true, rfl, Lib.hid (FX.out.trans hF9), Lib.hid (fun _ => ⟨_, hPM9⟩), Lib.hid (fun h => by cases h)⟩, ?_⟩
      have h3 := HU0.out; have h4 := HLV.out
      simp only [truthOf]
      omega
    | false =>
      have e9 : V9 = V0 := hR9.same rfl
      refine ⟨⟨false, rfl, Lib.hid (FX.out.trans hF9), Lib.hid (fun h => by cases h), Lib.hid (fun _ => ⟨V9, hV9, by rw [e9]; exact hQ9 rfl, hR9.snd HS0.out⟩)⟩, ?_⟩
      have h3 := HU0.out; have h4 := HLV.out
      rw [e9] at hle
      simp only [truthOf]
      omega
  | false =>
  obtain ⟨V, hV, hvc, hvs⟩ := hdone.out rfl
  have VX := Lib.hid hV
  have HVC := Lib.hid hvc
  have HVS := Lib.hid hvs
  have B0x := Lib.hid (SB0.out.blk FX.out HB0r.out)
  have Btx := Lib.hid (SBt.out.blk FX.out HBtr.out)
  have B1x := Lib.hid (SB1.out.blk FX.out HB1r.out)
  have hszx := HLX.out.size
  clear hV hvc hvs hex hdone
  go_upto_region 21 with fail
  refine wp_named (fun Y => ∃ g, wx.heap.size = g ∧ Blk Y g [.slice none 0 0] ∧ Kept [] wx Y) ⟨_, rfl, Blk.new _ _ _ _ rfl, (Kept.refl _ _).alloc _⟩ ?_
  rintro Y ⟨gs, egs, Bgs, hkY⟩
  rw [egs]
  have hgsY : gs < Y.heap.size := Bgs.1
  have HLY := Lib.hid (HLX.out.trans (hkY.toBelow.mono HLX.out.size))
  have LNY := Lib.hid (LNX.out.fx (Fx.same (O := RowO K.n1 bs) hkY))
  have VY := Lib.hid (VX.out.keep hkY)
  have B0Y := Lib.hid (hkY.blk (by simp) B0x.out)
  have BtY := Lib.hid (hkY.blk (by simp) Btx.out)
  have B1Y := Lib.hid (hkY.blk (by simp) B1x.out)
  have HBgs := Lib.hid Bgs
  have h0g : b0 ∉ [gs] := by have := B0x.out.1; simp; omega
  have htg9 : gt ∉ [gs] := by have := Btx.out.1; simp; omega
  have h1g : b1 ∉ [gs] := by have := B1x.out.1; simp; omega
  have hwgs : w.heap.size ≤ gs := by omega
  have hbs9 : ∀ x, x < wx.heap.size → x ∉ [gs] := fun x hx => by simp; omega
  have HVAL : Hid (∀ w9 n d, Kept [gs] Y w9 → n < K.n1 → d < f → ∀ y0 y1, (solV p T V n d).1 = ⟨y0, y1⟩ → Calls Tryd.prog 36 #[.agg #[.slice K.A1 K.n1 K.c1, .slice K.A2 K.n2 K.c2, .int .i64 (mN : Nat), .int .i64 (f : Nat), .slice K.A3 K.n3 K.c3, .slice K.A4 K.n4 K.c4, .slice (some ⟨go, 0, none⟩) K.n1 cN], .slice As K.n1 cs, .slice (some ⟨go2, 0, none⟩) K.n1 cA, .int .i64 (n : Nat), .int .i64 (d : Nat)] w9 fun e w' => e = .returned (.agg #[.int .i64 y0, .int .i64 y1]) ∧ Below w9.heap.size w9 w') := fun w9 n d hk9 hn hd y0 y1 hy =>
    rvalue_any w9 n d (LNY.out.tw.kept hk9 (hbs9 _ LNX.out.tw.glt) (fun m hm => hbs9 _ (LNX.out.tw.lt m hm))) (VY.out.kept hk9 (hbs9 _ VX.out.glt) (fun m hm => hbs9 _ (VX.out.lt m hm))) (SIn.keptX LNY.out.st.1 hk9 (fun _ a ha => hbs9 _ (LNX.out.st.2 hN0 a ha).1)).1 HEN.out HEF.out hn hd hf8 hy
  have ⟨L0Y, C0Y, F0Y⟩ := B0Y.out
  have ⟨LtY, CtY, FtY⟩ := BtY.out
  clear C0x F0x Ctx Ftx egs Bgs
  go_wp2_with fail
  go_loopw [13] (fun s13 wr9 => ∃ (n : Nat) (A : Option Addr) (cA9 : Nat) (bs9 rc9 : Nat → Nat), n ≤ K.n1 ∧ s13 = .int .i64 n ∧ Kept [gs] Y wr9 ∧ Hid (Blk wr9 gs [.slice A n cA9]) ∧ Hid (wr9.ownsRow Y.heap.size 66 1 (.slice A n cA9) n ((List.range n).map fun x => Value.slice (some ⟨bs9 x, 0, none⟩) f (rc9 x))) ∧ Hid (EmU Y.heap.size 56 f (solV p T V) bs9 n wr9)) (fun s13 _ => K.n1 - (intOf s13).toNat)
  case atStart => exact ⟨0, none, 0, fun _ => 0, fun _ => 0, Nat.zero_le _, rfl, Kept.refl _ _, HBgs, Lib.hid (World.ownsRow_nil _ _ _ _), Lib.hid ⟨fun x h => absurd h (by omega), fun x y h => absurd h (by omega)⟩⟩
  case round =>
  rename World => wr9
  clear C0Y F0Y CtY FtY HBgs
  obtain ⟨n, A, cA9, bs9, rc9, hn, rfl, hkr9, BG, own, EM⟩ := hrel
  have BR0 := hkr9.blk h0g B0Y.out
  have BRt := hkr9.blk htg9 BtY.out
  have ⟨L0r, C0r, F0r⟩ := BR0
  have hsz9 := hkr9.size
  by_cases hlt : n < K.n1
  case neg =>
    obtain rfl : n = K.n1 := by omega
    have ⟨LGr, CGr, FGr⟩ := BG.out
    have BR1 := hkr9.blk h1g B1Y.out
    have ⟨L1r, C1r, F1r⟩ := BR1
    obtain ⟨r, cr, hv, hbr9, hrl, -, -, hcell, -⟩ := own_cellsT own.out hN0
    have htr : Tag wr9 r 66 := own_tag own.out (by rw [hv]; rfl)
    injection hv with e1 e2 e3
    subst e1
    subst e3
    have HCL := Lib.hid hcell
    have HTR := Lib.hid htr
    clear hcell htr
    go_wp2_with fail
    refine retNamedT (fun X => Blk X b1 [.slice (some ⟨r, 0, none⟩) K.n1 cA9] ∧ Kept [b1] wr9 X) ⟨BR1.set 0 _, (Kept.refl [b1] wr9).set b1 0 _ (.inl (by simp))⟩ ?_
    rintro X ⟨BX, hkX⟩
    have ⟨LX, CX, FX9⟩ := BX
    have hb1Y : b1 < Y.heap.size := B1Y.out.1
    have hne1 : ∀ x, x < K.n1 → bs9 x ∉ [b1] := fun x hx => by have h1 := (EM.out.1 x hx).1; simp; omega
    have EMX := EM.out.kept hkX hne1
    have hr1 : r ∉ [b1] := by simp; omega
    refine bodyPost_ret (by simp [results, Tryd.results12, go_sem, CX]; try rfl) rfl ?_
    refine ⟨r, cA9, bs9, rc9, solV p T V, rfl, ⟨Nat.lt_of_lt_of_le hrl hkX.size, fun x hx => (hkX.cell r _ hrl hr1).trans ?_, fun x a hx ha => (EMX.1 x hx).2.2 a ha, fun x i hx => (EMX.1 x hx).2.1.frozen i, fun x hx => (EMX.1 x hx).2.1.lt, EMX.2, fun x hx => (EM.out.1 x hx).2.1.ne HTR.out (by decide)⟩, ⟨T, V, HC.out, HSN.out, HVC.out, HVS.out, fun n d hn hd => solV_glb (fun a ha => LNX.out.tw.top n a d (fun h9 => ha (by rw [HFE.out]; exact h9.2.1)))⟩, ?_⟩
    · rw [HCL.out x (by omega)]
      simp [hx]
    · have h9 := Kept.below (X := [gs]) HLY.out HLY.out.size (by simpa using hwgs) hkr9
      exact hkX.below h9 h9.size (by simpa using G1)
  have hn9 : (n : Int) < (K.n1 : Int) := by omega
  have HXA : Hid (∀ y ∈ (Value.slice A n cA9).ownBlock.toList, Y.heap.size ≤ y) := (fun y hy => own_ge own.out (by simpa using hy))
  have xg : gs ∉ (Value.slice A n cA9).ownBlock.toList := fun hm => by have := HXA.out gs hm; omega
  go_wp2_with fail
  go_loopw [14, 15] (fun s14 s15 wq => ∃ (j : Nat) (A' : Option Addr) (c' : Nat), j ≤ f ∧ s14 = .slice A' j c' ∧ s15 = .int .i64 j ∧ Kept [] wr9 wq ∧ Hid (wq.ownsRow wr9.heap.size 56 2 (.slice A' j c') j (ucel (solV p T V n) j))) (fun _ s15 _ => f - (intOf s15).toNat)
  case atStart => exact ⟨0, none, 0, Nat.zero_le _, rfl, rfl, Kept.refl _ _, Lib.hid (World.ownsRow_nil _ _ _ _)⟩
  case round =>
  rename World => wq
  clear C0r F0r
  obtain ⟨j, A', c', hj', rfl, rfl, hkq, ownq⟩ := hrel
  have ⟨L0q, C0q, F0q⟩ := hkq.blk (by simp) BR0
  have ⟨Ltq, Ctq, Ftq⟩ := hkq.blk (by simp) BRt
  have hsq := hkq.size
  by_cases hltj : j < f
  · obtain ⟨y0, hy0'⟩ : ∃ v, (solV p T V n j).1.k = v := ⟨_, rfl⟩
    obtain ⟨y1, hy1'⟩ : ∃ v, (solV p T V n j).1.n = v := ⟨_, rfl⟩
    have HAP : Hid (ucel (solV p T V n) j ++ [.int .i64 y0, .int .i64 y1] = ucel (solV p T V n) (j + 1)) := Lib.hid (by rw [ucel_succ, hy0', hy1'])
    have hj9 : (j : Int) < (f : Int) := by omega
    have HVL : Hid (∀ w9, Kept [] wq w9 → Calls Tryd.prog 36 #[.agg #[.slice K.A1 K.n1 K.c1, .slice K.A2 K.n2 K.c2, .int .i64 (mN : Nat), .int .i64 (f : Nat), .slice K.A3 K.n3 K.c3, .slice K.A4 K.n4 K.c4, .slice (some ⟨go, 0, none⟩) K.n1 cN], .slice As K.n1 cs, .slice (some ⟨go2, 0, none⟩) K.n1 cA, .int .i64 (n : Nat), .int .i64 (j : Nat)] w9 fun e w' => e = .returned (.agg #[.int .i64 y0, .int .i64 y1]) ∧ Below w9.heap.size w9 w') := fun w9 hk9 => HVAL.out w9 n j ((hkr9.next hkq (by simp)).next hk9 (by simp)) hlt hltj y0 y1 (by rw [← hy0', ← hy1'])
    clear hy0' hy1'
    go_wp2_with (first
      | (go_at_call 36; refine (HVL.out _ (by (exact kpt0))).mono ?_; rintro e w5 ⟨rfl, hb5⟩; have hk5 : Kept [] wq w5 := Kept.call (by (exact kpt0)) hb5)
      | (at_builtin; refine wpList_append_rd _ rfl _ _ 66 rfl wr9.heap.size 56 i0 (.agg #[.int .i64 0, .int .i64 0]) 2 16 Tryd.underlying66 hi hz0 hz1 hz2 rfl (by decide) (.slice A' j c') j (ucel (solV p T V n) j) rfl (own_keptT (X := []) ownq.out (hk5.alloc _) (by simp)) (some ⟨w5.heap.size, 0, none⟩) 1 1 [.int .i64 y0, .int .i64 y1] rfl (Rd.new2v _ _ _ _ _ rfl) (fun h => by cases h) (by intro u hu; simp at hu; rcases hu with hu | hu <;> subst hu <;> rfl) (j + 1) rfl (ucel (solV p T V n) (j + 1)) HAP.out (by unfold maxLen; omega) (by omega) (by have := hk5.size; simp; omega) ?_; intro A9 c9 w4 hown4 hk4 hat4; have HX : Hid (∀ y ∈ (Value.slice A' j c').ownBlock.toList, wr9.heap.size ≤ y) := (fun y hy => own_ge ownq.out (by simpa using hy)); have hk6 := Lib.hid (((hkq.next hk5 (by simp)).alloc (.cells #[.int .i64 y0, .int .i64 y1] 56)).next hk4 (fun y hy => Or.inr (HX.out y hy))); have HO4 := Lib.hid hown4; clear hown4 hk4 hat4))
    exact ⟨⟨j + 1, A9, c9, by omega, rfl, by go_num, hk6.out, HO4⟩, by simp [intOf]; omega⟩
  obtain rfl : j = f := by omega
  obtain ⟨g', cr, hv, hbr9, hgl9, -, -, hcell, -⟩ := own_cellsT ownq.out hf1
  have htg : Tag wq g' 56 := own_tag ownq.out (by rw [hv]; rfl)
  injection hv with e1 e2 e3
  subst e1
  subst e3
  have HCL : Hid (∀ d, d < j → wq.cell? ⟨g', d * 2, none⟩ = some (.int .i64 (solV p T V n d).1.k) ∧ wq.cell? ⟨g', d * 2 + 1, none⟩ = some (.int .i64 (solV p T V n d).1.n)) := Lib.hid (fun d hd => ⟨(hcell _ (by omega)).trans (ucel_at _ j hd).1, (hcell _ (by omega)).trans (ucel_at _ j hd).2⟩)
  have HTG := Lib.hid htg
  have OWQ := Lib.hid (own_keptT (X := []) own.out hkq (by simp))
  have ⟨LGq, CGq, FGq⟩ := hkq.blk (by simp) BG.out
  have BGq := Lib.hid (hkq.blk (by simp) BG.out)
  have EMq := Lib.hid (EM.out.kept hkq (by simp))
  have HAB := Lib.hid (rows_snoc bs9 rc9 j n g' c')
  have hgq : gs < wq.heap.size := by omega
  clear hcell htg
  go_wp2_with (at_builtin; refine wpList_append_rd _ rfl _ _ 34 rfl Y.heap.size 66 i1 (.slice none 0 0) 1 24 Tryd.underlying34 hj hy0 hy1 hy2 rfl (by decide) (.slice A n cA9) n _ rfl (own_keptT (X := []) OWQ.out ((Kept.refl _ _).alloc _) (by simp)) (some ⟨wq.heap.size, 0, none⟩) 1 1 [.slice (some ⟨g', 0, none⟩) j c'] rfl (Rd.new1 _ _ _ _ rfl) (fun h => by cases h) (by intro u hu; simp at hu; subst hu; rfl) (n + 1) rfl _ HAB.out (by unfold maxLen; omega) (by omega) (by simp; omega) ?_; intro A9 c9 w4 hown4 hk4 hat4; have hkA : Kept (Value.slice A n cA9).ownBlock.toList wq w4 := ((Kept.refl _ wq).alloc _).next hk4 (fun y hy => Or.inl hy); have ⟨LG4, CG4, FG4⟩ := hkA.blk xg BGq.out; have HO4 := Lib.hid hown4; have HKA := Lib.hid hkA; clear hown4 hk4 hat4)
  have hks : Kept [gs] w4 (w4.setCell ⟨gs, 0, none⟩ (.slice A9 (n + 1) c9)) := (Kept.refl [gs] w4).set gs 0 _ (.inl (by simp))
  have hbA : ∀ x, x < n + 1 → updN bs9 n g' x ∉ (Value.slice A n cA9).ownBlock.toList := fun x hx hm => by
    have h1 : (Value.slice A n cA9).ownBlock = some (updN bs9 n g' x) := by simpa using hm
    have h2 := own_tag OWQ.out h1
    unfold updN at h2
    by_cases e : x = n
    · rw [if_pos e] at h2; exact absurd rfl (HTG.out.ne h2 (by decide))
    · rw [if_neg e] at h2; exact absurd rfl ((EMq.out.1 x (by omega)).2.1.ne h2 (by decide))
  have EM2 := EMq.out.snoc (g := g') (by omega) HTG.out HCL.out (fun x hx e => by
    have h1 := (EM.out.1 x hx).2.1.lt
    omega)
  have EM3 := (EM2.kept HKA.out hbA).kept hks (fun x hx => by have h1 := (EM2.1 x hx).1; simp; omega)
  have OW3 := own_keptT HO4.out hks (fun y hy => by have := own_ge HO4.out hy; simp; omega)
  exact ⟨⟨n + 1, A9, c9, updN bs9 n g', updN rc9 n c', by omega, by go_num, ((hkr9.next hkq (by simp)).next HKA.out (fun y hy => Or.inr (HXA.out y hy))).next hks (fun y hy => Or.inl hy), Lib.hid ((HKA.out.blk xg BGq.out).set 0 _), Lib.hid OW3, Lib.hid EM3⟩, by simp [intOf]; omega⟩
end Go.Proofs.YtincpmdldpakkaaDoor
