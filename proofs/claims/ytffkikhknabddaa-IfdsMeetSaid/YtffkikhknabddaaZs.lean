/- A pack of texts: Vd Ve. -/
import Derived.Test.YtffkikhknabddaaZv
import Derived.Shelf.RegionOpenPlain
import Derived.Lib.OwnBridge
/- The contract of slices.Reverse at []int and of vpath's Stack. -/
namespace Go.Df
open Go.RowKit
/-- Reversed from both ends up to place i. -/
def rv (xs : List Int) (n i x : Nat) : Int := if x < i ∨ n - 1 - i < x then gi xs (n - 1 - x) else gi xs x
theorem rv_zero {xs : List Int} {n x : Nat} (h : x < n) : rv xs n 0 x = gi xs x := by
  unfold rv
  rw [if_neg (by omega)]
theorem rv_end {xs : List Int} {n i x : Nat} (h : x < n) (h1 : n - 1 ≤ 2 * i) : rv xs n i x = gi xs (n - 1 - x) := by
  unfold rv
  split
  · rfl
  · rw [show n - 1 - x = x by omega]
theorem rv_step {xs : List Int} {n i m x : Nat} (him : i < m) (hm : m = n - 1 - i) (hx : x < n) : rv xs n (i + 1) x = if x = m then gi xs i else if x = i then gi xs m else rv xs n i x := by
  unfold rv
  by_cases h1 : x = m
  · rw [if_pos h1, if_pos (by omega), show n - 1 - x = i by omega]
  · rw [if_neg h1]
    by_cases h2 : x = i
    · rw [if_pos h2, if_pos (by omega), show n - 1 - x = m by omega]
    · rw [if_neg h2]
      by_cases h3 : x < i ∨ n - 1 - i < x
      · rw [if_pos h3, if_pos (by omega)]
      · rw [if_neg h3, if_neg (by omega)]
theorem swap_cells {w : World} {b o i m x : Nat} {u v z y1 y2 : Value} (him : i ≠ m) (h1 : w.cell? ⟨b, o + i, none⟩ = some y1) (h2 : w.cell? ⟨b, o + m, none⟩ = some y2) (hz : w.cell? ⟨b, o + x, none⟩ = some z) :
    ((w.setCell ⟨b, o + i, none⟩ u).setCell ⟨b, o + m, none⟩ v).cell? ⟨b, o + x, none⟩ = some (if x = m then v else if x = i then u else z) := by
  by_cases e1 : x = m
  · rw [if_pos e1, e1]
    exact set_same (u := y2) ((set_other (.inr (by omega))).trans h2)
  · rw [if_neg e1, set_other (.inr (by omega))]
    by_cases e2 : x = i
    · rw [if_pos e2, e2]
      exact set_same h1
    · rw [if_neg e2, set_other (.inr (by omega))]
      exact hz
theorem gi_rev {xs : List Int} {x : Nat} (h : x < xs.length) : gi xs.reverse x = gi xs (xs.length - 1 - x) := by
  rw [gi_lt (by simpa using h), gi_lt (by omega), List.getElem_reverse]
end Go.Df
namespace Go.Proofs.Ytffkikhknabddaa
open Go.RowKit Go.Df
attribute [local go_sem ↓] Go.wp_at_zero Go.wp_at_succ

set_option maxRecDepth 100000 in
theorem reverse_nil (A : Option Addr) (c : Nat) (w : World) :
    Calls Try.prog 97 #[.slice A 0 c] w fun e w' => e = .returned (.tuple #[]) ∧ w' = w := by
  go_enter Try.func97, Try.ntmps97
  go_wp2_with fail
  refine wp_loop_rounds 1 ?_
  rw [rounds_succ]
  go_wp2_with fail
  go_end0
  exact ⟨rfl, rfl⟩

set_option maxRecDepth 100000 in
set_option maxHeartbeats 1000000 in
theorem reverse_any (b o n c : Nat) (xs : List Int) (w : World) (hl : xs.length = n) (hn : n ≤ 1000000) (hb : b < w.heap.size) (hc : ∀ j, j < n → w.cell? ⟨b, o + j, none⟩ = some (.int .i64 (gi xs j))) (hf : ∀ j, j < n → w.frozen? ⟨b, o + j, none⟩ = false) :
    Calls Try.prog 97 #[.slice (some ⟨b, o, none⟩) n c] w fun e w' => e = .returned (.tuple #[]) ∧ Kept [b] w w' ∧ ∀ j, j < n → w'.cell? ⟨b, o + j, none⟩ = some (.int .i64 (gi xs.reverse j)) := by
  have HC := Lib.hid hc
  have HF := Lib.hid hf
  have HL := Lib.hid hl
  clear hc hf hl
  go_enter Try.func97, Try.ntmps97
  go_wp2_with fail
  go_loopw [2, 3] (fun s2 s3 wr => ∃ i : Nat, s2 = .int .i64 i ∧ s3 = .int .i64 ((n : Int) - 1 - i) ∧ 2 * i ≤ n ∧ Kept [b] w wr ∧ Hid (∀ x, x < n → wr.cell? ⟨b, o + x, none⟩ = some (.int .i64 (rv xs n i x))) ∧ Hid (∀ x, x < n → wr.frozen? ⟨b, o + x, none⟩ = false)) (fun i _ _ => n - (intOf i).toNat)
  case atStart => exact ⟨0, rfl, by simp, by omega, Kept.refl _ _, Lib.hid (fun x hx => by rw [HC.out x hx, rv_zero hx]), HF⟩
  case round =>
    obtain ⟨i, rfl, rfl, h2, hkr, hcr, hfr⟩ := hrel
    by_cases hlt : (i : Int) < (n : Int) - 1 - i
    · have hd : decide ((i : Int) < (n : Int) - 1 - i) = true := by simpa using hlt
      obtain ⟨m, hm⟩ : ∃ m : Nat, (n : Int) - 1 - i = m := ⟨n - 1 - i, by omega⟩
      have ci := hcr.out i (by omega)
      have fi := hfr.out i (by omega)
      have cm := hcr.out m (by omega)
      have fm := hfr.out m (by omega)
      have e1 : rv xs n i i = gi xs i := by unfold rv; rw [if_neg (by omega)]
      have e2 : rv xs n i m = gi xs m := by unfold rv; rw [if_neg (by omega)]
      rw [e1] at ci
      rw [e2] at cm
      rw [hm] at hd ⊢
      have him : i < m := by omega
      have hmn : m < n := by omega
      have hw1 : IntKind.i64.wrap ((m : Int) - 1) = (m : Int) - 1 := IntWalk.i64_in _ (by omega)
      have HM := Lib.hid hm
      have hlr : b < wr.heap.size := Nat.lt_of_lt_of_le hb hkr.size
      have hin : i < n := by omega
      have mixed : Try.prog.follows Departure.mixedOrders = true := by kernel_rfl
      clear hlt hm e1 e2
      go_wp2_with fail
      go_region_o
      go_wp2_with fail
      refine ⟨⟨i + 1, by go_num, by have := HM.out; congr 1; omega, by have := HM.out; omega, ((hkr.set b _ _ (.inl (by simp))).set b _ _ (.inl (by simp))).drew, Lib.hid (fun x hx => ?_), Lib.hid (fun x hx => ?_)⟩, by simp [intOf]; omega⟩
      · refine (swap_cells (by omega) ci cm (hcr.out x hx)).trans ?_
        rw [rv_step him (by have := HM.out; omega) hx]
        split
        · rfl
        · split <;> rfl
      · refine Eq.trans ?_ (hfr.out x hx)
        exact (World.frozen?_setCell _ _ _ _).trans (World.frozen?_setCell _ _ _ _)
    · have hd : decide ((i : Int) < (n : Int) - 1 - i) = false := by simpa using hlt
      go_wp2_with fail
      go_end0
      exact ⟨rfl, hkr, fun x hx => by rw [hcr.out x hx, rv_end hx (by omega), gi_rev (by rw [HL.out]; exact hx), HL.out]⟩

set_option maxRecDepth 100000 in
set_option maxHeartbeats 2000000 in
theorem stack_any (A1 A2 A3 : Option Addr) (n1 c1 n2 c2 n3 c3 : Nat) (mn fr : Int) (ns : List Sp.Nd) (es : List Sp.Ed) (path : List Int) (w : World) (hg : Gr w A1 n1 A2 n2 ns es) (hp : Ints w A3 n3 path) (hn3 : (Sp.followS ns es mn fr path).2.2.length ≤ 1000000) :
    Calls Try.prog 51 #[.agg #[.slice A1 n1 c1, .slice A2 n2 c2, .int .i64 mn], .int .i64 fr, .slice A3 n3 c3] w fun e w' =>
      ∃ A n c, e = .returned (.tuple #[.slice A n c, .int .i64 (Sp.followS ns es mn fr path).1]) ∧ Ints w' A n (Sp.followS ns es mn fr path).2.2.reverse ∧ (A = none → n = 0) ∧ Below w.heap.size w w' := by
  obtain ⟨i0, hi, hz0, hz1, hz2⟩ := info_parts int_info
  have HG := Lib.hid hg
  have HP := Lib.hid hp
  have HN3 := Lib.hid hn3
  clear hg hp hn3
  go_enter Try.func51, Try.ntmps51
  go_upto_region 1 with fail
  refine wp_named (fun W => ∃ b0, w.heap.size = b0 ∧ Blk W b0 [.slice A1 n1 c1, .slice A2 n2 c2, .int .i64 mn] ∧ Below w.heap.size w W) ⟨_, rfl, ?_, ?_⟩ ?_
  · exact Blk.new _ _ _ _ (by first | rfl | simp)
  · go_grown
  rintro W ⟨b0, e0, B0, hB⟩
  rw [e0]
  have G0 : w.heap.size ≤ b0 := by omega
  clear e0
  have ⟨L0, C0, F0⟩ := B0
  go_wp2_with fail
  refine (follow_any _ _ _ _ _ _ _ _ _ _ _ ns es path _ (HG.out.later hB).nd (HG.out.later hB).ed HG.out.wn HG.out.we (HP.out.later hB)).mono ?_
  rintro e w1 ⟨P, rfl, pd, hb1⟩
  have hk1 : Kept [] W w1 := (Kept.refl _ _).call hb1
  have hB1 := hk1.below hB hB.size (by simp)
  have HS := Lib.hid (Sp.follow_err (ns := ns) (es := es) (m := mn) (fr := fr) (path := path))
  obtain ⟨⟨er, a, cs⟩, hf⟩ : ∃ x, Sp.followS ns es mn fr path = x := ⟨_, rfl⟩
  rw [hf] at HS HN3 pd ⊢
  have HFo := Lib.hid hf
  have PD := Lib.hid pd
  clear hf pd
  by_cases h0 : er = 0
  case neg =>
    have h0' : (er != 0) = true := by simpa using h0
    have H0 : Hid ((a, cs) = (0, [])) := HS.out h0
    clear h0
    go_wp2_with fail
    go_ret2
    refine ⟨none, 0, 0, ?_, ?_, fun _ => rfl, hB1.alloc hB1.size _⟩
    · rw [HFo.out]
      rfl
    · rw [HFo.out, show cs = [] from congrArg Prod.snd H0.out]
      exact Ints.empty _ _
  have h0' : (er != 0) = false := by simpa using h0
  have H0 := Lib.hid h0
  clear h0
  go_upto_region 2 with fail
  refine wp_named (fun V => ∃ g, w1.heap.size = g ∧ Blk V g [.slice none 0 0, .int .i64 a, .pointer P] ∧ Kept [] w1 V) ⟨_, rfl, Blk.new _ _ _ _ rfl, (Kept.refl _ _).alloc _⟩ ?_
  rintro V ⟨g, eg, Bg, hkV⟩
  rw [eg]
  have ⟨LG, CG, FG⟩ := Bg
  have hBV := hkV.below hB1 hB1.size (by simp)
  have PDV := Lib.hid (Pend.kept hkV cs PD.out)
  clear eg
  go_wp2_with fail
  go_loopw [10, 11] (fun s10 s11 wr => ∃ (dn rs : List Int) (Q : Option Addr) (A : Option Addr) (c : Nat), s10 = .slice A dn.length c ∧ s11 = .pointer Q ∧ Hid (dn ++ rs = cs) ∧ Hid (Pend V Q rs) ∧ Kept [] V wr ∧ Hid (wr.ownsRow V.heap.size 3 1 (.slice A dn.length c) dn.length (dn.map (Value.int .i64)))) (fun s10 _ _ => cs.length - (match s10 with | .slice _ n _ => n | _ => 0))
  case atStart => exact ⟨[], cs, P, none, 0, rfl, rfl, Lib.hid rfl, PDV, Kept.refl _ _, Lib.hid (World.ownsRow_nil _ _ _ _)⟩
  case round =>
    obtain ⟨dn, rs, Q, A, c, rfl, rfl, hcs, pdr, hkr, own⟩ := hrel
    have hlen : Hid (dn.length + rs.length = cs.length) := by show _ = _; rw [← hcs.out]; simp
    have hBr := hkr.below hBV hBV.size (by simp)
    cases rs with
    | cons c0 r =>
      obtain ⟨pb, Q', rfl, PB, PQ⟩ := pdr.out
      have PBr := hkr.blk (by simp) PB
      have ⟨PL, PC, PF⟩ := PBr
      have HPQ := Lib.hid PQ
      have hpb := PB.1
      have hsz := hkr.size
      have hl2 := hlen.out
      have hn3 := HN3.out
      simp only [List.length_cons] at hl2
      clear CG FG PQ
      go_wp2_with (first
        | (at_builtin; refine wpList_append_rd _ rfl _ _ 26 rfl V.heap.size 3 i0 (.int .i64 0) 1 8 Try.underlying26 hi hz0 hz1 hz2 rfl (by decide) (.slice A dn.length c) dn.length (dn.map (Value.int .i64)) rfl (own_alloc own.out _) (some ⟨wr.heap.size, 0, none⟩) 1 1 [.int .i64 c0] rfl (Rd.new1 _ _ _ _ rfl) (fun h => by cases h) (by intro u hu; simp at hu; subst hu; rfl) (dn ++ [c0]).length (by simp) ((dn ++ [c0]).map (Value.int .i64)) (by simp) (by unfold maxLen; simp; omega) (by simp; omega) (by simp; omega) ?_; intro A9 c9 w4 hown4 hk4 hat4; have HX : Hid (∀ y ∈ (Value.slice A dn.length c).ownBlock.toList, V.heap.size ≤ y) := (fun y hy => own_ge own.out (by simpa using hy)); have ⟨PL4, PC4, PF4⟩ := hk4.blk (fun hy => by have := HX.out pb hy; omega) (PBr.alloc _); have hk5 := Lib.hid ((hkr.alloc (.cells #[.int .i64 c0] 3)).next hk4 (fun y hy => Or.inr (HX.out y hy))); have HO4 := Lib.hid hown4; clear hown4 hk4 hat4)
        | go_in)
      refine ⟨⟨dn ++ [c0], r, Q', A9, c9, by simp, rfl, Lib.hid (by rw [← hcs.out]; simp), HPQ, hk5.out, HO4⟩, ?_⟩
      simp
      omega
    | nil =>
      obtain rfl : Q = none := pdr.out
      have hdn : Hid (dn = cs) := by have := hcs.out; rwa [List.append_nil] at this
      have HFo2 : Hid (Sp.followS ns es mn fr path = (0, a, dn)) := by show _ = _; rw [HFo.out, show er = 0 from H0.out, hdn.out]
      have hn3 : dn.length ≤ 1000000 := by have := HN3.out; rw [← hdn.out] at this; exact this
      clear CG FG
      go_wp2_with fail
      by_cases hd0 : dn.length = 0
      · have HD0 := Lib.hid (List.length_eq_zero_iff.mp hd0)
        rw [hd0]
        refine (reverse_nil _ _ _).mono ?_
        rintro e w6 ⟨rfl, rfl⟩
        clear hd0
        go_wp2_with fail
        go_ret2
        refine ⟨A, 0, c, ?_, ?_, fun _ => rfl, hBr⟩
        · rw [HFo2.out]
          rfl
        · rw [HFo2.out, HD0.out]
          exact Ints.empty _ _
      · obtain ⟨g', cap, hv, hbase, hlt, hle, hmx, hll, hH⟩ := Lib.holds_of_ownsRow own.out (fun hh => hd0 (by injection hh))
        injection hv with e1 e2 e3
        subst e1
        have hH' := Lib.hid hH
        refine (reverse_any g' 0 dn.length _ dn _ rfl hn3 hlt (fun j hj => by have := (hH j (by simpa using hj)).1; simp only [Nat.zero_add] at this ⊢; rw [this]; simp [hj, gi]) (fun j hj => by have := (hH j (by simpa using hj)).2; simpa using this)).mono ?_
        rintro e w6 ⟨rfl, hk6, hc6⟩
        have HC6 := Lib.hid hc6
        have hB6 := Lib.hid (hk6.below hBr hBr.size (by simp; have := hBV.size; omega))
        have hlt6 : g' < w6.heap.size := Nat.lt_of_lt_of_le hlt hk6.size
        clear hc6 hH hd0
        go_wp2_with fail
        go_ret2
        refine ⟨some ⟨g', 0, none⟩, dn.length, cap, ?_, ?_, (fun h => by cases h), hB6.out⟩
        · rw [HFo2.out]
          rfl
        · rw [HFo2.out]
          exact ⟨by simp, fun _ => ⟨g', 0, rfl, hlt6, fun j hj => HC6.out j hj⟩⟩
end Go.Proofs.Ytffkikhknabddaa
/- The contracts of small, pair, awake of the law, and of Equal. -/
namespace Go.Df
open Go.RowKit
theorem Ints.of_blk {w : World} {b : Nat} {xs : List Int} (h : Blk w b (xs.map (Value.int .i64))) : Ints w (some ⟨b, 0, none⟩) xs.length xs :=
  ⟨rfl, fun _ => ⟨b, 0, rfl, h.1, fun i hi => by rw [Nat.zero_add, h.2.1 i, map_gi hi]⟩⟩
namespace Sp
/-- The law's example. -/
def pns : List Nd := [⟨0, 1, -1⟩, ⟨0, 2, 0⟩, ⟨0, 3, -1⟩, ⟨0, 4, -1⟩, ⟨1, 1, -1⟩, ⟨1, 3, -1⟩, ⟨1, 4, -1⟩]
def pes : List Ed := [⟨0, 1, 1, -1⟩, ⟨1, 4, 2, 1⟩, ⟨4, 5, 1, -1⟩, ⟨5, 2, 3, 1⟩]
theorem pf1 : followS pns pes 0 0 [0, 1] = (0, 4, [1]) := by decide +kernel
theorem pf2 : followS pns pes 0 0 [0, 1, 2, 3] = (0, 2, []) := by decide +kernel
theorem pf3 : followS pns pes 0 5 [3] = (20, 0, []) := by decide +kernel
theorem pb2 : balS pns pes 0 0 [0, 1, 2, 3] = true := by decide +kernel
end Sp
theorem pair_gr {w : World} {a b : Nat} (ha : Blk w a (Sp.pns.flatMap Sp.Nd.cs)) (hb : Blk w b (Sp.pes.flatMap Sp.Ed.cs)) : Gr w (some ⟨a, 0, none⟩) 7 (some ⟨b, 0, none⟩) 4 Sp.pns Sp.pes := by
  refine ⟨⟨rfl, fun _ => ⟨a, 0, rfl, ha.1, fun i hi => ?_⟩⟩, ⟨rfl, fun _ => ⟨b, 0, rfl, hb.1, fun i hi => ?_⟩⟩, fun j hj => ?_, fun j hj => ?_⟩
  · rw [ha.2.1, ha.2.1, ha.2.1]
    match i, hi with
    | 0, _ => exact ⟨rfl, rfl, rfl⟩
    | 1, _ => exact ⟨rfl, rfl, rfl⟩
    | 2, _ => exact ⟨rfl, rfl, rfl⟩
    | 3, _ => exact ⟨rfl, rfl, rfl⟩
    | 4, _ => exact ⟨rfl, rfl, rfl⟩
    | 5, _ => exact ⟨rfl, rfl, rfl⟩
    | 6, _ => exact ⟨rfl, rfl, rfl⟩
  · rw [hb.2.1, hb.2.1, hb.2.1, hb.2.1]
    match i, hi with
    | 0, _ => exact ⟨rfl, rfl, rfl, rfl⟩
    | 1, _ => exact ⟨rfl, rfl, rfl, rfl⟩
    | 2, _ => exact ⟨rfl, rfl, rfl, rfl⟩
    | 3, _ => exact ⟨rfl, rfl, rfl, rfl⟩
  · match j, hj with
    | 0, _ => rfl
    | 1, _ => rfl
    | 2, _ => rfl
    | 3, _ => rfl
    | 4, _ => rfl
    | 5, _ => rfl
    | 6, _ => rfl
  · match j, hj with
    | 0, _ => exact ⟨rfl, rfl⟩
    | 1, _ => exact ⟨rfl, rfl⟩
    | 2, _ => exact ⟨rfl, rfl⟩
    | 3, _ => exact ⟨rfl, rfl⟩
end Go.Df
namespace Go.Proofs.Ytffkikhknabddaa
open Go.RowKit Go.Df
attribute [local go_sem ↓] Go.wp_at_zero Go.wp_at_succ

theorem small_any (A1 A2 : Option Addr) (n1 c1 n2 c2 : Nat) (mn : Int) (v : Bool) (hv : v = (decide (n1 ≤ 40) && decide (n2 ≤ 120))) (w : World) :
    Calls Try.prog 14 #[.agg #[.slice A1 n1 c1, .slice A2 n2 c2, .int .i64 mn]] w fun e w' => e = .returned (.bool v) ∧ Below w.heap.size w w' := by
  go_enter Try.func14, Try.ntmps14
  go_upto_region 1 with fail
  refine wp_named (fun W => ∃ b0, w.heap.size = b0 ∧ Blk W b0 [.slice A1 n1 c1, .slice A2 n2 c2, .int .i64 mn] ∧ Below w.heap.size w W) ⟨_, rfl, ?_, ?_⟩ ?_
  · exact Blk.new _ _ _ _ (by first | rfl | simp)
  · go_grown
  rintro W ⟨b0, e0, B0, hB⟩
  rw [e0]
  have G0 : w.heap.size ≤ b0 := by omega
  clear e0
  have ⟨L0, C0, F0⟩ := B0
  have HV := Lib.hid hv
  clear hv
  by_cases h1 : n1 ≤ 40
  · have d1 : decide ((n1 : Int) ≤ 40) = true := by simp; omega
    have d1' : decide (n1 ≤ 40) = true := by simpa using h1
    by_cases h2 : n2 ≤ 120
    · have d2 : decide ((n2 : Int) ≤ 120) = true := by simp; omega
      have d2' : decide (n2 ≤ 120) = true := by simpa using h2
      go_wp2_with fail
      go_ret
      exact ⟨ret_bool (by rw [HV.out, d1', d2']; rfl), hB⟩
    · have d2 : decide ((n2 : Int) ≤ 120) = false := by simp; omega
      have d2' : decide (n2 ≤ 120) = false := by simpa using h2
      go_wp2_with fail
      go_ret
      exact ⟨ret_bool (by rw [HV.out, d1', d2']; rfl), hB⟩
  · have d1 : decide ((n1 : Int) ≤ 40) = false := by simp; omega
    have d1' : decide (n1 ≤ 40) = false := by simpa using h1
    go_wp2_with fail
    go_ret
    exact ⟨ret_bool (by rw [HV.out, d1']; rfl), hB⟩

set_option maxRecDepth 100000 in
set_option maxHeartbeats 2000000 in
theorem pair_any (w : World) :
    Calls Try.prog 50 #[] w fun e w' => ∃ a b, e = .returned (.agg #[.slice (some ⟨a, 0, none⟩) 7 7, .slice (some ⟨b, 0, none⟩) 4 4, .int .i64 0]) ∧ Gr w' (some ⟨a, 0, none⟩) 7 (some ⟨b, 0, none⟩) 4 Sp.pns Sp.pes ∧ Below w.heap.size w w' := by
  go_enter Try.func50, Try.ntmps50
  go_wp2_with fail
  try simp only [Exit.inBlock, Exit.then]
  refine post_named (fun X => Blk X w.heap.size [.slice (some ⟨w.heap.size + 1, 0, none⟩) 7 7, .slice (some ⟨w.heap.size + 1 + 1, 0, none⟩) 4 4, .int .i64 0] ∧ Blk X (w.heap.size + 1) (Sp.pns.flatMap Sp.Nd.cs) ∧ Blk X (w.heap.size + 1 + 1) (Sp.pes.flatMap Sp.Ed.cs) ∧ Below w.heap.size w X) ⟨?_, ?_, ?_, ?_⟩ ?_
  · exact Blk.alloc (Blk.alloc (Blk.new _ [_, _, _] _ _ rfl) _) _
  · exact Blk.alloc (Blk.new _ (Sp.pns.flatMap Sp.Nd.cs) _ _ (by simp)) _
  · exact Blk.new _ (Sp.pes.flatMap Sp.Ed.cs) _ _ (by simp)
  · go_grown
  rintro X ⟨BX, Ba, Bb, hX⟩
  have ⟨LX, CX, FX⟩ := BX
  refine bodyPost_ret (by simp [results, Try.results50, go_sem, CX]; try rfl) rfl ?_
  exact ⟨_, _, rfl, pair_gr Ba Bb, hX⟩

set_option maxRecDepth 100000 in
theorem equal_any (A B : Option Addr) (n c m d : Nat) (xs ys : List Int) (w : World) (hx : Ints w A n xs) (hy : Ints w B m ys) (hn : n ≤ 1000000) :
    Calls Try.prog 23 #[.slice A n c, .slice B m d] w fun e w' => e = .returned (.bool (decide (xs = ys))) ∧ Below w.heap.size w w' := by
  have HX := Lib.hid hx
  have HY := Lib.hid hy
  have HLx := Lib.hid hx.1
  have HLy := Lib.hid hy.1
  clear hx hy
  go_enter Try.func23, Try.ntmps23
  by_cases hnm : n = m
  case neg =>
    have h1 : ((n : Int) != (m : Int)) = true := by simp; omega
    have h2 : (n != m) = true := by simp; omega
    have HF : Hid (decide (xs = ys) = false) := by
      show _ = _
      rw [decide_eq_false_iff_not]
      intro hh
      have h3 := HLx.out
      have h4 := HLy.out
      rw [hh] at h3
      omega
    go_wp2_with fail
    go_ret
    exact ⟨ret_bool HF.out.symm, Below.refl _ _⟩
  subst hnm
  have h1 : ((n : Int) != (n : Int)) = false := by simp
  have h2 : (n != n) = false := by simp
  go_wp2_with fail
  go_loopw [5] (fun i wr => ∃ j : Nat, j ≤ n ∧ i = .int .i64 j ∧ Kept [] w wr ∧ Hid (∀ x, x < j → gi xs x = gi ys x)) (fun i _ => n - (intOf i).toNat)
  case atStart => exact ⟨0, Nat.zero_le _, rfl, Kept.refl _ _, Lib.hid (fun x hx => absurd hx (by omega))⟩
  case round =>
    obtain ⟨j, hj, rfl, hkr, heq⟩ := hrel
    have hBr := hkr.toBelow
    by_cases hlt : j < n
    · obtain ⟨b, o, rfl, hl, hc⟩ := (HX.out.kept hkr).2 (by omega)
      obtain ⟨b', o', rfl, hl', hc'⟩ := (HY.out.kept hkr).2 (by omega)
      have p1 := hc j hlt
      have p2 := hc' j hlt
      clear hc hc'
      obtain ⟨u, hu⟩ : ∃ u, gi xs j = u := ⟨_, rfl⟩
      obtain ⟨v, hv⟩ : ∃ v, gi ys j = v := ⟨_, rfl⟩
      rw [hu] at p1
      rw [hv] at p2
      by_cases huv : u = v
      · have h3 : (u != v) = false := by simpa using huv
        have hfin : Hid (∀ x, x < j + 1 → gi xs x = gi ys x) := fun x hx => by
          rcases Nat.lt_or_ge x j with h9 | h9
          · exact heq.out x h9
          · obtain rfl : x = j := by omega
            rw [hu, hv, huv]
        clear hu hv huv
        go_upto_region 6 with fail
        go_quiet (fail)
        go_wp2_with fail
        exact ⟨⟨j + 1, by omega, by go_num, hkr.drewN _, hfin⟩, by simp [intOf]; omega⟩
      · have h3 : (u != v) = true := by simpa using huv
        have HF : Hid (decide (xs = ys) = false) := by
          show _ = _
          rw [decide_eq_false_iff_not]
          intro hh
          exact huv (by rw [← hu, ← hv, hh])
        clear hu hv huv
        go_upto_region 6 with fail
        go_quiet (fail)
        go_wp2_with fail
        go_ret
        exact ⟨ret_bool HF.out.symm, (hkr.drewN _).toBelow⟩
    · obtain rfl : j = n := by omega
      have HF : Hid (decide (xs = ys) = true) := by
        show _ = _
        rw [decide_eq_true_iff]
        have h3 := HLx.out
        have h4 := HLy.out
        refine List.ext_getElem (by omega) (fun i hi hi' => ?_)
        have := heq.out i (by omega)
        rwa [gi_lt hi, gi_lt hi'] at this
      go_wp2_with fail
      go_ret
      exact ⟨ret_bool HF.out.symm, hBr⟩

set_option maxRecDepth 100000 in
set_option maxHeartbeats 2000000 in
theorem awake_any (w : World) : Calls Try.prog 15 #[] w fun e w' => e = .returned (.bool true) ∧ Below w.heap.size w w' := by
  go_enter Try.func15, Try.ntmps15
  go_wp2_with fail
  refine (pair_any _).mono ?_
  rintro e w0 ⟨a, b, rfl, hg, hb0⟩
  have HG := Lib.hid hg
  clear hg
  go_upto_region 2 with fail
  refine wp_named (fun V => ∃ g, w0.heap.size = g ∧ Blk V g [.slice (some ⟨a, 0, none⟩) 7 7, .slice (some ⟨b, 0, none⟩) 4 4, .int .i64 0] ∧ Kept [] w0 V) ⟨_, rfl, Blk.new _ _ _ _ rfl, (Kept.refl _ _).alloc _⟩ ?_
  rintro V ⟨g, eg, BV, hkV⟩
  rw [eg]
  have HGV := Lib.hid (HG.out.kept hkV)
  have hBV : Below w.heap.size w V := hkV.below hb0 hb0.size (by simp)
  have ⟨LV, CV, FV⟩ := BV
  have hk0 : Kept [] V V := Kept.refl _ _
  clear eg
  go_wp2_with (first | (go_at_call 51; refine (stack_any _ _ _ _ _ _ _ _ _ 0 0 Sp.pns Sp.pes [0, 1] _ (HGV.out.kept (hk0.alloc _)) (Ints.of_blk (xs := [0, 1]) (Blk.new _ _ _ _ rfl)) (by rw [Sp.pf1]; decide)).mono ?_; rintro e w1 ⟨SA, sn, sc, rfl, si, -, hb1⟩; rw [Sp.pf1] at si; obtain ⟨si1, si2⟩ := si; obtain rfl : 1 = sn := si1; obtain ⟨sb, so, rfl, sl, scell⟩ := si2 (by omega); have sc0 := scell 0 (by omega); rw [Nat.add_zero, show gi [1].reverse 0 = 1 from rfl] at sc0; rw [Sp.pf1]; clear scell si2 CV FV; have hk1 : Kept [] V w1 := (hk0.alloc _).call hb1; have ⟨L1, C1, F1⟩ := hk1.blk (by simp) BV))
  go_upto_region 3 with fail
  go_wp2_with (first | (go_at_call 52; refine (end_any _ _ _ _ _ _ _ _ _ 0 0 Sp.pns Sp.pes [0, 1, 2, 3] _ (HGV.out.kept (hk1.alloc _)) (Ints.of_blk (xs := [0, 1, 2, 3]) (Blk.new _ _ _ _ rfl))).mono ?_; rintro e w2 ⟨rfl, hb2⟩; rw [Sp.pf2]; have hk12 : Kept [] w1 w2 := ((Kept.refl _ _).alloc _).call hb2; have sc2 := (hk12.cell sb so sl (by simp)).trans sc0; have sl2 := Nat.lt_of_lt_of_le sl hk12.size; clear C1 F1; have hk2 : Kept [] V w2 := (hk1.alloc _).call hb2; have ⟨L2, C2, F2⟩ := hk2.blk (by simp) BV) | (go_at_call 53; refine (bal_any _ _ _ _ _ _ _ _ _ 0 0 Sp.pns Sp.pes [0, 1, 2, 3] _ (HGV.out.kept (hk2.alloc _)) (Ints.of_blk (xs := [0, 1, 2, 3]) (Blk.new _ _ _ _ rfl))).mono ?_; rintro e w3 ⟨rfl, hb3⟩; rw [Sp.pb2]; clear C2 F2; have hk3 : Kept [] V w3 := (hk2.alloc _).call hb3; have ⟨L3, C3, F3⟩ := hk3.blk (by simp) BV) | (go_at_call 21; refine (pcheck_any _ _ _ _ _ _ _ _ _ 0 5 Sp.pns Sp.pes [3] _ (HGV.out.kept (hk3.alloc _)) (Ints.of_blk (xs := [3]) (Blk.new _ _ _ _ rfl))).mono ?_; rintro e w4 ⟨rfl, hb4⟩; rw [Sp.pf3]; clear C3 F3; have hk4 : Kept [] V w4 := (hk3.alloc _).call hb4; have ⟨L4, C4, F4⟩ := hk4.blk (by simp) BV))
  go_ret
  exact ⟨rfl, hk4.below hBV hBV.size (by simp)⟩
end Go.Proofs.Ytffkikhknabddaa
