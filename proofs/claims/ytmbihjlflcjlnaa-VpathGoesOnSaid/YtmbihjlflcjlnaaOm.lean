/- The contract of vpath.All. -/
import Derived.Test.YtmbihjlflcjlnaaOf
namespace Go.Df
open Go.RowKit
/-- What All carries from round to round: its list of slices, in a box. -/
def AllI (bx bc : Nat) (tS tr ti : TypeId) (count : Nat) (w : World) (lim : Nat) (pre : List (Option Addr × Nat × Nat)) (W : World) : Prop :=
  ∃ v, Boxed W bx tS v ∧ W.ownsRow lim tr 1 v pre.length (pre.map fun x => Value.slice x.1 x.2.1 x.2.2) ∧ (pre = [] → v = .slice none 0 0) ∧ (∀ g, v.ownBlock = some g → w.heap.size ≤ g) ∧ Below w.heap.size w W ∧ Boxed W bc ti (.int .i64 count) ∧ lim ≤ W.heap.size
section
variable {bx bc : Nat} {tS tr ti : TypeId} {count : Nat} {w : World}
theorem AllI.own (lim B : Nat) (hB : w.heap.size ≤ B) : OwnFrom B (AllI bx bc tS tr ti count w lim) := by
  rintro s W W' row ⟨v, h1, h2, h3, h4, h5, h6, h7⟩ hg hr
  have hne : ∀ b t u, Boxed W b t u → some b ≠ row := fun b t u hb e => by
    obtain ⟨_, o, ho, hc⟩ := hr b e.symm
    rw [show W.heap[b]? = _ from hb] at ho
    cases ho; cases hc
  refine ⟨v, h1.kept hg (hne _ _ _ h1), ?_, h3, h4, ?_, h6.kept hg (hne _ _ _ h6), Nat.le_trans h7 hg.size⟩
  · refine h2.kept hg ?_
    rcases h2.2 with ⟨rfl, _⟩ | ⟨g, cap, cur, rfl, _, hgb, _⟩
    · exact .inl rfl
    · refine .inr fun e' => ?_
      obtain ⟨_, o, ho, hc⟩ := hr g (by simpa [Value.ownBlock] using e'.symm)
      rw [hgb] at ho; cases ho; cases hc
  · exact h5.grown hg h5.size (fun k e => Nat.le_trans hB (hr k e).1)
theorem AllI.abides {ts : TypeId → Prop} {B : Nat} (lim : Nat) (hB : w.heap.size ≤ B) (hS : ¬ ts tS) (hr : ¬ ts tr) (hc : bc < B) : AbidesT B ts (AllI bx bc tS tr ti count w lim) := by
  rintro s W W' X ⟨v, h1, h2, h3, h4, h5, h6, h7⟩ hk hX
  refine ⟨v, (hk.block bx h1.lt (fun hm => ?_)).trans h1, own_keptT h2 hk (fun g hg hm => ?_), h3, h4, ?_, (hk.block bc h6.lt (fun hm => ?_)).trans h6, Nat.le_trans h7 hk.size⟩
  · obtain ⟨_, t, ht, hT⟩ := hX bx hm
    exact Tag.ne hT ⟨_, h1⟩ (fun e => hS (e ▸ ht)) rfl
  · obtain ⟨_, t, ht, hT⟩ := hX g hm
    exact Tag.ne hT (own_tag h2 hg) (fun e => hr (e ▸ ht)) rfl
  · exact Kept.below h5 h5.size (fun x hx => Nat.le_trans hB (hX x hx).1) hk
  · have := (hX bc hm).1; omega
theorem AllI.low (lim lim' : Nat) {W : World} (h : AllI bx bc tS tr ti count w lim [] W) (hl : lim' ≤ W.heap.size) : AllI bx bc tS tr ti count w lim' [] W := by
  obtain ⟨v, h1, h2, h3, h4, h5, h6, h7⟩ := h
  obtain rfl := h3 rfl
  exact ⟨_, h1, World.ownsRow_nil _ _ _ _, h3, h4, h5, h6, hl⟩
/-- One more slice. -/
theorem AllI.more {lim n : Nat} {pre : List (Option Addr × Nat × Nat)} {W w1 : World} {v : Value} {A' : Option Addr} {N c' : Nat} {x : Option Addr × Nat × Nat} {tmp : Obj}
    (h1 : Boxed W bx tS v) (h2 : W.ownsRow lim tr 1 v n (pre.map fun x => Value.slice x.1 x.2.1 x.2.2)) (h3 : pre = [] → v = .slice none 0 0) (h4 : ∀ g, v.ownBlock = some g → w.heap.size ≤ g) (h5 : Below w.heap.size w W) (h6 : Boxed W bc ti (.int .i64 count)) (h7 : lim ≤ W.heap.size)
    (hbx : w.heap.size ≤ bx) (hne : bc ≠ bx) (hSr : tS ≠ tr) (hir : ti ≠ tr) (hn : pre.length = n) (hN : N = n + 1)
    (hown : w1.ownsRow lim tr 1 (.slice A' N c') N ((pre ++ [x]).map fun x => Value.slice x.1 x.2.1 x.2.2)) (hk : Kept v.ownBlock.toList (W.alloc tmp) w1) (hat : ∀ g, (Value.slice A' N c').ownBlock = some g → v.ownBlock = some g ∨ g = (W.alloc tmp).heap.size) :
    KeepsOthers W (w1.setCell ⟨bx, 0, none⟩ (.slice A' N c')) ∧ KpT bx tr lim W (w1.setCell ⟨bx, 0, none⟩ (.slice A' N c')) ∧ AllI bx bc tS tr ti count w lim (pre ++ [x]) (w1.setCell ⟨bx, 0, none⟩ (.slice A' N c')) := by
  subst hn
  have hT : ∀ g, v.ownBlock = some g → Tag W g tr := fun g hg => own_tag h2 hg
  have hkW : Kept v.ownBlock.toList W w1 := ((Kept.refl _ W).alloc tmp).next hk (fun y hy => .inl hy)
  have hbxn : bx ∉ v.ownBlock.toList := fun hm => (hT bx (by simpa using hm)).ne ⟨_, h1⟩ (fun e => hSr e.symm) rfl
  have hbcn : bc ∉ v.ownBlock.toList := fun hm => (hT bc (by simpa using hm)).ne ⟨_, h6⟩ (fun e => hir e.symm) rfl
  have b1 : Boxed w1 bx tS v := (hkW.block bx h1.lt hbxn).trans h1
  have c1 : Boxed w1 bc ti (.int .i64 count) := (hkW.block bc h6.lt hbcn).trans h6
  have hkS : Kept (bx :: v.ownBlock.toList) W (w1.setCell ⟨bx, 0, none⟩ (.slice A' N c')) := (keptWide hkW (fun y hy => List.mem_cons_of_mem _ hy)).set bx 0 _ (.inl (by simp))
  have hlt1 : W.heap.size ≤ w1.heap.size := hkW.size
  refine ⟨?_, ?_, ⟨_, b1.set _, ?_, fun e => by simp at e, fun g hg => ?_, ?_, ?_, ?_⟩⟩
  · refine ⟨hkS.size, fun k o ho hc => ?_⟩
    refine (hkS.block k (Array.getElem?_eq_some_iff.1 ho).1 (fun hm => ?_)).trans ho
    rcases List.mem_cons.1 hm with rfl | hm
    · rw [show W.heap[k]? = _ from h1] at ho; cases ho; cases hc
    · obtain ⟨cur, h9⟩ := hT k (by simpa using hm)
      rw [h9] at ho; cases ho; cases hc
  · refine ⟨_, hkS, fun y hy => .inl ?_⟩
    rcases List.mem_cons.1 hy with rfl | hm
    · exact ⟨.inl rfl, fun c hc => by
        rw [h1.cell] at hc
        rcases h2.2 with ⟨rfl, _⟩ | ⟨g, cap, cur, rfl, _⟩ <;> cases hc⟩
    · have hg : v.ownBlock = some y := by simpa using hm
      refine ⟨.inr ⟨hT y hg, own_ge h2 hg⟩, fun c hc => ?_⟩
      have h8 : 0 < pre.length := by
        rcases Nat.eq_zero_or_pos pre.length with h9 | h9
        · rw [h3 (List.eq_nil_of_length_eq_zero h9)] at hg
          cases hg
        · exact h9
      have h9 := h2.cells hg 0 _ (by rw [List.getElem?_map, List.getElem?_eq_getElem h8]; rfl)
      rw [add_lit, Nat.add_zero] at h9
      rw [h9] at hc
      cases hc
  · rw [show (pre ++ [x]).length = N by simp [hN]]
    exact own_keptT hown ((Kept.refl [bx] w1).set bx 0 _ (.inl (by simp))) (fun g hg hm => (own_tag hown hg).ne ⟨_, b1⟩ (fun e => hSr e.symm) (by simpa using hm))
  · rcases hat g hg with h9 | h9
    · exact h4 g h9
    · rw [h9]; have := h5.size; simp; omega
  · exact Kept.below h5 h5.size (fun y hy => by
      rcases List.mem_cons.1 hy with rfl | hm
      · exact hbx
      · exact h4 y (by simpa using hm)) hkS
  · exact c1.other hne _
  · simp; omega
theorem come_put {L : List (List Int)} {xs : List (Option Addr × Nat × Nat)} {W : World} {k : Nat} {o : Obj} (o' : Obj) (h : Come L xs W) (hk : W.heap[k]? = some o) (ho : o.isCells = false) : Come L xs (W.putObj k o') :=
  ⟨h.1, fun i l hl => by
    obtain ⟨x, hx, h1, h2⟩ := h.2 i l hl
    refine ⟨x, hx, h1, fun hn => ?_⟩
    obtain ⟨b, o9, e, hlt, hc⟩ := h2 hn
    have hne : b ≠ k := by
      rintro rfl
      have h9 := hc 0 hn
      cases o <;> first | (cases ho; done) | (simp [World.cell?, hk] at h9)
    exact ⟨b, o9, e, by simpa using hlt, fun i hi => (cell_same (World.putObj_heap_other hne) _).trans (hc i hi)⟩⟩
end
end Go.Df
namespace Go.Proofs.Ytmbihjlflcjlnaa
open Go.RowKit Go.Df Go.Shelf
attribute [local go_sem] Oper.semAt_some
theorem rowi_fo : (Try.prog.info? 26).map (fun i => (i.zero, i.size, i.bytes)) = some (some (.slice none 0 0), 1, 24) := by kernel_rfl
set_option maxRecDepth 100000 in
set_option maxHeartbeats 4000000 in
theorem vall_any (A1 A2 : Option Addr) (n1 c1 n2 c2 : Nat) (mn fr : Int) (most count : Nat) (ns : List Sp.Nd) (es : List Sp.Ed) (w : World) (hg : Gr w A1 n1 A2 n2 ns es) (hch : Sp.chkErr ns es mn fr = 0) (hc1 : 1 ≤ count) (hc5 : count ≤ 5000) (hm : most ≤ 4096) :
    Calls Try.prog 9 #[.agg #[.slice A1 n1 c1, .slice A2 n2 c2, .int .i64 mn], .int .i64 fr, .int .i64 most, .int .i64 count] w fun e w' =>
      ∃ lim v xs, e = .returned (.tuple #[v, .int .i64 0]) ∧ Come (Sp.itI es count fr (most + 1)).1 xs w' ∧ w'.ownsRow lim 26 1 v xs.length (xs.map fun x => .slice x.1 x.2.1 x.2.2) ∧ Below w.heap.size w w' := by
  obtain ⟨i1, j1, j2, j3, j4⟩ := info_parts rowi_fo
  have HG := Lib.hid hg
  have HCH := Lib.hid hch
  have HL := Lib.hid hg.nd.1
  obtain ⟨hsu, hfr⟩ : Sp.superErr ns es mn = 0 ∧ 0 ≤ fr ∧ fr < n1 := by
    have h1 := hg.nd.1
    unfold Sp.chkErr at hch
    split at hch
    · rename_i h9; exact absurd hch h9
    · rename_i h9
      split at hch
      · cases hch
      · exact ⟨Decidable.byContradiction h9, by omega, by omega⟩
  have HSU := Lib.hid hsu
  clear hg hch hsu
  refine (callsIn_wide (n := 6)).1 ?_
  refine callsIn_of_wp_marks Try.func9 rfl trivial ?_ rfl
  simp only [Try.ntmps9, List.size_toArray, List.length_cons, List.length_nil, Nat.reduceAdd, Nat.reduceSub, Array.replicate_succ, Array.replicate_zero, List.push_toArray, List.append_toArray, List.nil_append, List.cons_append]
  have hf1 : Fence.wide.fn 19 := trivial
  have hf2 : Fence.wide.fn 20 := trivial
  have d1 : decide ((most : Int) < 0) = false := by simp
  have d2 : decide ((4096 : Int) < (most : Int)) = false := by simp; omega
  have d3 : decide ((count : Int) < 0) = false := by simp
  have d4 : decide ((5000 : Int) < (count : Int)) = false := by simp; omega
  obtain ⟨V, hV⟩ : ∃ V, (w.alloc (.cells #[.slice A1 n1 c1, .slice A2 n2 c2, .int .i64 mn] 25)).alloc (.cells #[.int .i64 count] 3) = V := ⟨_, rfl⟩
  have hkV : Kept [] w V := by rw [← hV]; exact ((Kept.refl [] w).alloc _).alloc _
  have hszV : V.heap.size = w.heap.size + 2 := by rw [← hV]; simp
  have BV0 : Blk V w.heap.size [.slice A1 n1 c1, .slice A2 n2 c2, .int .i64 mn] := by rw [← hV]; exact (Blk.new _ _ _ _ rfl).alloc _
  have BV1 : Boxed V (w.heap.size + 1) 3 (.int .i64 count) := by
    rw [← hV]
    have := Boxed.new (w.alloc (.cells #[.slice A1 n1 c1, .slice A2 n2 c2, .int .i64 mn] 25)) 3 (.int .i64 count)
    rwa [World.size_alloc] at this
  have HV := Lib.hid hV
  clear hV
  gi_wp2_with (first
    | (gi_at_call 19; rw [HV.out]; refine (callsIn_wide.2 (vcheck_any A1 A2 n1 c1 n2 c2 mn fr ns es V (HG.out.kept hkV).nd (HG.out.kept hkV).ed HG.out.wn HG.out.we)).mono ?_; rw [HCH.out]; rintro e w1 ⟨rfl, hb1⟩; have hk1 : Kept [] V w1 := (Kept.refl _ _).call hb1; have ⟨L0, C0, F0⟩ := BV0.later hb1; have B1w : Boxed w1 (w.heap.size + 1) 3 (.int .i64 count) := (hk1.block _ BV1.lt (by simp)).trans BV1; have C1 := B1w.cell; have F1 := B1w.frozen; have L1 : w.heap.size + 1 < w1.heap.size := B1w.lt)
    | (gi_at_call 20; refine (callsIn_wide.2 (paths_itT A1 A2 n1 c1 n2 c2 mn fr most count _)).mono ?_; rintro e w3 ⟨b0, b1, b2, b3, rfl, Q0, Q1, Q2, Q3, T0, T1, T2, T3, hb3⟩))
  obtain ⟨bx, hbx⟩ : ∃ bx, w1.heap.size = bx := ⟨_, rfl⟩
  rw [hbx]
  have hkx : Kept [] w1 w3 := ((Kept.refl [] w1).alloc _).call hb3
  have BX0 : Boxed w3 bx 33 (.slice none 0 0) := by
    rw [← hbx]
    exact (((Kept.refl [] _).call hb3).block _ (Boxed.new w1 33 (.slice none 0 0)).lt (by simp)).trans (Boxed.new w1 33 (.slice none 0 0))
  have BC0 : Boxed w3 (w.heap.size + 1) 3 (.int .i64 count) := (hkx.block _ B1w.lt (by simp)).trans B1w
  have hkw : Kept [] w w3 := (hkV.next hk1 (by simp)).next hkx (by simp)
  have hlt3 : bx < w3.heap.size := BX0.lt
  have hbc : w.heap.size + 1 < bx := by omega
  have hq : ∀ {b : Nat} {t : TypeId} (_ : Tag w3 b t), t ≠ 33 → b ≠ bx := fun {b t} h hn => h.ne ⟨_, BX0⟩ hn
  have hseq := paths_seq bx b0 b1 b2 b3 A1 A2 n1 c1 n2 c2 mn fr most count ns es w3 (HG.out.kept hkw) HSU.out hc1 hc5 hm Q0 Q1 Q2 Q3 hfr hlt3 (hq T0 (by decide)) (hq T2 (by decide)) (hq T3 (by decide)) (fun h0 a ha => by
    obtain ⟨b, o, e, hl, _⟩ := HG.out.ed.2 h0
    rw [e] at ha
    injection ha with ha
    subst ha
    show b ≠ bx
    omega)
  have HSEQ := Lib.hid hseq
  have hszw : w.heap.size ≤ w3.heap.size := hkw.size
  obtain ⟨L, hL⟩ : ∃ L, (Sp.itI es count fr (most + 1)).1 = L := ⟨_, rfl⟩
  have hLc : L.length ≤ count := by rw [← hL]; exact Sp.itI_out_len _
  rw [hL] at HSEQ
  have HLL := Lib.hid hL
  have HI0 : Hid (AllI bx (w.heap.size + 1) 33 26 3 count w 0 [] w3) := Lib.hid ⟨_, BX0, World.ownsRow_nil _ _ _ _, fun _ => rfl, (fun g hg => by cases hg), hkw.toBelow, BC0, Nat.zero_le _⟩
  clear hseq hb3 Q0 Q1 Q2 Q3 T0 T1 T2 T3 BX0 BC0 C0 F0 C1 F1 B1w hb1 hk1 hkx hq BV0 BV1 hbx hL
  refine wpIn_rangeFunc_T (encs := encP) (ts := WalkT) (Kp := KpT bx 26) (S := Come L) (Sp := fun _ _ => True) (N := L.length) (w0 := w3) rfl (by omega) rfl trivial (fun _ _ => rfl) HSEQ.out (fun h k => KpT.trans h k) (fun lim W l o o' h ho => KpT.putObj W l o o' h ho) (Below.refl _ _) (fun _ => rfl) (AllI bx (w.heap.size + 1) 33 26 3 count w) (fun _ _ _ => False) (fun lim => AllI.own lim _ hszw) (fun _ _ _ _ _ h => h.elim) (fun lim => AllI.abides lim hszw (by unfold WalkT; decide) (by unfold WalkT; decide) (by omega)) (fun lim lim' W h hl => AllI.low lim lim' h hl) 0 HI0.out ?a1 ?hassign ?hbody ?hS ?hSp ?hdone ?hstop
  case hassign =>
    intro l x W K hK
    have HK := Lib.hid hK
    clear hK
    simp only [encP, List.zip_toArray, List.zip_cons_cons, List.zip_nil_right, List.size_toArray, List.length_cons, List.length_nil, List.foldl_toArray', List.foldl_cons, List.foldl_nil, List.setIfInBounds_toArray, List.set_cons_succ, List.set_cons_zero]
    gi_wp2
    exact HK.out
  case hSp => exact fun _ _ _ _ _ _ _ _ => trivial
  case hstop => exact fun _ _ _ _ _ _ h => h.elim
  case hbody =>
    intro l lim pre x W hI hlen
    obtain ⟨v, h1, h2, h3, h4, h5, h6, h7⟩ := hI
    obtain ⟨A, c, rfl⟩ : ∃ A c, v = .slice A pre.length c := by
      rcases h2.2 with ⟨h8, h9⟩ | ⟨g, cap, cur, h8, _⟩
      · exact ⟨_, _, by rw [h8, h9]⟩
      · exact ⟨_, _, h8⟩
    have H1 := Lib.hid h1
    have H2 := Lib.hid h2
    have H3 := Lib.hid h3
    have H4 := Lib.hid h4
    have H5 := Lib.hid h5
    have H6 := Lib.hid h6
    have C1 := h1.cell
    have F1 := h1.frozen
    have C6 := h6.cell
    have F6 := h6.frozen
    have L1 := h1.lt
    have L6 := h6.lt
    obtain ⟨N, hN⟩ : ∃ N, pre.length = N := ⟨_, rfl⟩
    have HN := Lib.hid hN
    rw [hN] at hlen C1 H1 H2 H3 H4
    have hne : ((N : Int) == (count : Int)) = false := by simp; omega
    have HAP : Hid ((pre.map fun x => Value.slice x.1 x.2.1 x.2.2) ++ [.slice x.1 x.2.1 x.2.2] = (pre ++ [x]).map fun x => Value.slice x.1 x.2.1 x.2.2) := Lib.hid (by simp)
    clear h1 h2 h3 h4 h5 h6 hN
    gi_wp2_with (gi_at_builtin; refine wpListIn_append_rd _ rfl _ _ 33 rfl lim 26 i1 (.slice none 0 0) 1 24 Try.underlying33 j1 j2 j3 j4 rfl (by decide) (.slice A N c) N (pre.map fun x => Value.slice x.1 x.2.1 x.2.2) rfl (own_alloc H2.out _) (some ⟨W.heap.size, 0, none⟩) 1 1 [.slice x.1 x.2.1 x.2.2] rfl (Rd.new1 _ _ _ _ rfl) (fun h => by cases h) (by intro u hu; simp at hu; subst hu; rfl) (N + 1) rfl ((pre ++ [x]).map fun x => Value.slice x.1 x.2.1 x.2.2) HAP.out (by unfold maxLen; omega) (by omega) (by simp; omega) ?_; intro A8 c8 w8 hown8 hk8 hat8; have hkB : Kept (Value.slice A N c).ownBlock.toList W w8 := ((Kept.refl _ W).alloc _).next hk8 (fun y hy => .inl hy); have B8 : Boxed w8 bx 33 (.slice A N c) := (hkB.block bx L1 (fun hm => (own_tag H2.out (by simpa using hm)).ne ⟨_, H1.out⟩ (by decide) rfl)).trans H1.out; have C8 := B8.cell; have F8 := B8.frozen; have L8 := B8.lt; have HO8 := Lib.hid hown8; have HK8 := Lib.hid hk8; have HAT8 := Lib.hid hat8; clear hown8 hk8 hat8 B8)
    exact AllI.more H1.out H2.out H3.out H4.out H5.out H6.out h7 (by omega) (by omega) (by decide) (by decide) HN.out rfl HO8.out HK8.out HAT8.out
  case hdone =>
    intro D lim xs W hD hS hI hd
    obtain ⟨v, h1, h2, h3, h4, h5, h6, h7⟩ := hI
    have C1 := h1.cell
    have F1 := h1.frozen
    have L1 := h1.lt
    have HS := Lib.hid hS
    have H2 := Lib.hid h2
    have H5 := Lib.hid h5
    have HD := Lib.hid hd
    clear h1 h2 h3 h4 h5 h6 hS hd
    gi_wp2
    refine ⟨by simp, .inl ⟨_, _, rfl, run_takeDeferred HD.out, ?_⟩⟩
    exact ⟨_, results_tmp2 rfl _ _ _, lim, v, xs, rfl, by rw [HLL.out]; exact come_put _ HS.out HD.out rfl, ownsRow_putObj H2.out _ HD.out rfl, H5.out.grown (grownBy_putObj' _ _ _) H5.out.size (fun k e => by cases e; omega)⟩
  case hS => exact fun xs W k o o' h hk ho => come_put o' h hk ho
end Go.Proofs.Ytmbihjlflcjlnaa
