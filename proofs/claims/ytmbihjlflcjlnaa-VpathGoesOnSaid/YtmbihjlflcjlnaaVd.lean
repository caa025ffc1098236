/- The contract of slices.Reverse at []int and of vpath's Stack. -/
import Derived.Test.YtmbihjlflcjlnaaVc
import Derived.Shelf.RegionOpenPlain
import Derived.Lib.OwnBridge
namespace Go.Df
open Go.RowKit
/-- Reversed from both ends up to place i. -/
def rv (xs : List Int) (n i x : Nat) : Int := if x < i ∨ n - 1 - i < x then gi xs (n - 1 - x) else gi xs x
theorem rv_zero {xs : List Int} {n x : Nat} (h : x < n) : rv xs n 0 x = gi xs x := by
  unfold rv
  rw [if_neg (by omega)]
theorem rv_end {xs : List Int} {n i x : Nat} (h : x < n) (h1 : n - 1 ≤ 2 * i) : rv xs n i x = gi xs (n - 1 - x) := by
  unfold rv
  split
  · rfl
  · rw [show n - 1 - x = x by omega]
theorem rv_step {xs : List Int} {n i m x : Nat} (him : i < m) (hm : m = n - 1 - i) (hx : x < n) : rv xs n (i + 1) x = if x = m then gi xs i else if x = i then gi xs m else rv xs n i x := by
  unfold rv
  by_cases h1 : x = m
  · rw [if_pos h1, if_pos (by omega), show n - 1 - x = i by omega]
  · rw [if_neg h1]
    by_cases h2 : x = i
    · rw [if_pos h2, if_pos (by omega), show n - 1 - x = m by omega]
    · rw [if_neg h2]
      by_cases h3 : x < i ∨ n - 1 - i < x
      · rw [if_pos h3, if_pos (by omega)]
      · rw [if_neg h3, if_neg (by omega)]
theorem swap_cells {w : World} {b o i m x : Nat} {u v z y1 y2 : Value} (him : i ≠ m) (h1 : w.cell? ⟨b, o + i, none⟩ = some y1) (h2 : w.cell? ⟨b, o + m, none⟩ = some y2) (hz : w.cell? ⟨b, o + x, none⟩ = some z) :
    ((w.setCell ⟨b, o + i, none⟩ u).setCell ⟨b, o + m, none⟩ v).cell? ⟨b, o + x, none⟩ = some (if x = m then v else if x = i then u else z) := by
  by_cases e1 : x = m
  · rw [if_pos e1, e1]
    exact set_same (u := y2) ((set_other (.inr (by omega))).trans h2)
  · rw [if_neg e1, set_other (.inr (by omega))]
    by_cases e2 : x = i
    · rw [if_pos e2, e2]
      exact set_same h1
    · rw [if_neg e2, set_other (.inr (by omega))]
      exact hz
theorem gi_rev {xs : List Int} {x : Nat} (h : x < xs.length) : gi xs.reverse x = gi xs (xs.length - 1 - x) := by
  rw [gi_lt (by simpa using h), gi_lt (by omega), List.getElem_reverse]
end Go.Df
namespace Go.Proofs.Ytmbihjlflcjlnaa
open Go.RowKit Go.Df
attribute [local go_sem ↓] Go.wp_at_zero Go.wp_at_succ

set_option maxRecDepth 100000 in
theorem reverse_nil (A : Option Addr) (c : Nat) (w : World) :
    Calls Try.prog 23 #[.slice A 0 c] w fun e w' => e = .returned (.tuple #[]) ∧ w' = w := by
  go_enter Try.func23, Try.ntmps23
  go_wp2_with fail
  refine wp_loop_rounds 1 ?_
  rw [rounds_succ]
  go_wp2_with fail
  go_end0
  exact ⟨rfl, rfl⟩

set_option maxRecDepth 100000 in
set_option maxHeartbeats 1000000 in
theorem reverse_any (b o n c : Nat) (xs : List Int) (w : World) (hl : xs.length = n) (hn : n ≤ 1000000) (hb : b < w.heap.size) (hc : ∀ j, j < n → w.cell? ⟨b, o + j, none⟩ = some (.int .i64 (gi xs j))) (hf : ∀ j, j < n → w.frozen? ⟨b, o + j, none⟩ = false) :
    Calls Try.prog 23 #[.slice (some ⟨b, o, none⟩) n c] w fun e w' => e = .returned (.tuple #[]) ∧ Kept [b] w w' ∧ ∀ j, j < n → w'.cell? ⟨b, o + j, none⟩ = some (.int .i64 (gi xs.reverse j)) := by
  have HC := Lib.hid hc
  have HF := Lib.hid hf
  have HL := Lib.hid hl
  clear hc hf hl
  go_enter Try.func23, Try.ntmps23
  go_wp2_with fail
  go_loopw [2, 3] (fun s2 s3 wr => ∃ i : Nat, s2 = .int .i64 i ∧ s3 = .int .i64 ((n : Int) - 1 - i) ∧ 2 * i ≤ n ∧ Kept [b] w wr ∧ Hid (∀ x, x < n → wr.cell? ⟨b, o + x, none⟩ = some (.int .i64 (rv xs n i x))) ∧ Hid (∀ x, x < n → wr.frozen? ⟨b, o + x, none⟩ = false)) (fun i _ _ => n - (intOf i).toNat)
  case atStart => exact ⟨0, rfl, by simp, by omega, Kept.refl _ _, Lib.hid (fun x hx => by rw [HC.out x hx, rv_zero hx]), HF⟩
  case round =>
    obtain ⟨i, rfl, rfl, h2, hkr, hcr, hfr⟩ := hrel
    by_cases hlt : (i : Int) < (n : Int) - 1 - i
    · have hd : decide ((i : Int) < (n : Int) - 1 - i) = true := by simpa using hlt
      obtain ⟨m, hm⟩ : ∃ m : Nat, (n : Int) - 1 - i = m := ⟨n - 1 - i, by omega⟩
      have ci := hcr.out i (by omega)
      have fi := hfr.out i (by omega)
      have cm := hcr.out m (by omega)
      have fm := hfr.out m (by omega)
      have e1 : rv xs n i i = gi xs i := by unfold rv; rw [if_neg (by omega)]
      have e2 : rv xs n i m = gi xs m := by unfold rv; rw [if_neg (by omega)]
      rw [e1] at ci
      rw [e2] at cm
      rw [hm] at hd ⊢
      have him : i < m := by omega
      have hmn : m < n := by omega
      have hw1 : IntKind.i64.wrap ((m : Int) - 1) = (m : Int) - 1 := IntWalk.i64_in _ (by omega)
      have HM := Lib.hid hm
      have hlr : b < wr.heap.size := Nat.lt_of_lt_of_le hb hkr.size
      have hin : i < n := by omega
      have mixed : Try.prog.follows Departure.mixedOrders = true := by kernel_rfl
      clear hlt hm e1 e2
      go_wp2_with fail
      go_region_o
      go_wp2_with fail
      refine ⟨⟨i + 1, by go_num, by have := HM.out; congr 1; omega, by have := HM.out; omega, ((hkr.set b _ _ (.inl (by simp))).set b _ _ (.inl (by simp))).drew, Lib.hid (fun x hx => ?_), Lib.hid (fun x hx => ?_)⟩, by simp [intOf]; omega⟩
      · refine (swap_cells (by omega) ci cm (hcr.out x hx)).trans ?_
        rw [rv_step him (by have := HM.out; omega) hx]
        split
        · rfl
        · split <;> rfl
      · refine Eq.trans ?_ (hfr.out x hx)
        exact (World.frozen?_setCell _ _ _ _).trans (World.frozen?_setCell _ _ _ _)
    · have hd : decide ((i : Int) < (n : Int) - 1 - i) = false := by simpa using hlt
      go_wp2_with fail
      go_end0
      exact ⟨rfl, hkr, fun x hx => by rw [hcr.out x hx, rv_end hx (by omega), gi_rev (by rw [HL.out]; exact hx), HL.out]⟩

set_option maxRecDepth 100000 in
set_option maxHeartbeats 2000000 in
theorem stack_any (A1 A2 A3 : Option Addr) (n1 c1 n2 c2 n3 c3 : Nat) (mn fr : Int) (ns : List Sp.Nd) (es : List Sp.Ed) (path : List Int) (w : World) (hg : Gr w A1 n1 A2 n2 ns es) (hp : Ints w A3 n3 path) (hn3 : (Sp.followS ns es mn fr path).2.2.length ≤ 1000000) :
    Calls Try.prog 13 #[.agg #[.slice A1 n1 c1, .slice A2 n2 c2, .int .i64 mn], .int .i64 fr, .slice A3 n3 c3] w fun e w' =>
      ∃ A n c, e = .returned (.tuple #[.slice A n c, .int .i64 (Sp.followS ns es mn fr path).1]) ∧ Ints w' A n (Sp.followS ns es mn fr path).2.2.reverse ∧ (A = none → n = 0) ∧ Below w.heap.size w w' := by
  obtain ⟨i0, hi, hz0, hz1, hz2⟩ := info_parts int_info
  have HG := Lib.hid hg
  have HP := Lib.hid hp
  have HN3 := Lib.hid hn3
  clear hg hp hn3
  go_enter Try.func13, Try.ntmps13
  go_upto_region 1 with fail
  refine wp_named (fun W => ∃ b0, w.heap.size = b0 ∧ Blk W b0 [.slice A1 n1 c1, .slice A2 n2 c2, .int .i64 mn] ∧ Below w.heap.size w W) ⟨_, rfl, ?_, ?_⟩ ?_
  · exact Blk.new _ _ _ _ (by first | rfl | simp)
  · go_grown
  rintro W ⟨b0, e0, B0, hB⟩
  rw [e0]
  have G0 : w.heap.size ≤ b0 := by omega
  clear e0
  have ⟨L0, C0, F0⟩ := B0
  go_wp2_with fail
  refine (follow_any _ _ _ _ _ _ _ _ _ _ _ ns es path _ (HG.out.later hB).nd (HG.out.later hB).ed HG.out.wn HG.out.we (HP.out.later hB)).mono ?_
  rintro e w1 ⟨P, rfl, pd, hb1⟩
  have hk1 : Kept [] W w1 := (Kept.refl _ _).call hb1
  have hB1 := hk1.below hB hB.size (by simp)
  have HS := Lib.hid (Sp.follow_err (ns := ns) (es := es) (m := mn) (fr := fr) (path := path))
  obtain ⟨⟨er, a, cs⟩, hf⟩ : ∃ x, Sp.followS ns es mn fr path = x := ⟨_, rfl⟩
  rw [hf] at HS HN3 pd ⊢
  have HFo := Lib.hid hf
  have PD := Lib.hid pd
  clear hf pd
  by_cases h0 : er = 0
  case neg =>
    have h0' : (er != 0) = true := by simpa using h0
    have H0 : Hid ((a, cs) = (0, [])) := HS.out h0
    clear h0
    go_wp2_with fail
    go_ret2
    refine ⟨none, 0, 0, ?_, ?_, fun _ => rfl, hB1.alloc hB1.size _⟩
    · rw [HFo.out]
      rfl
    · rw [HFo.out, show cs = [] from congrArg Prod.snd H0.out]
      exact Ints.empty _ _
  have h0' : (er != 0) = false := by simpa using h0
  have H0 := Lib.hid h0
  clear h0
  go_upto_region 2 with fail
  refine wp_named (fun V => ∃ g, w1.heap.size = g ∧ Blk V g [.slice none 0 0, .int .i64 a, .pointer P] ∧ Kept [] w1 V) ⟨_, rfl, Blk.new _ _ _ _ rfl, (Kept.refl _ _).alloc _⟩ ?_
  rintro V ⟨g, eg, Bg, hkV⟩
  rw [eg]
  have ⟨LG, CG, FG⟩ := Bg
  have hBV := hkV.below hB1 hB1.size (by simp)
  have PDV := Lib.hid (Pend.kept hkV cs PD.out)
  clear eg
  go_wp2_with fail
  go_loopw [10, 11] (fun s10 s11 wr => ∃ (dn rs : List Int) (Q : Option Addr) (A : Option Addr) (c : Nat), s10 = .slice A dn.length c ∧ s11 = .pointer Q ∧ Hid (dn ++ rs = cs) ∧ Hid (Pend V Q rs) ∧ Kept [] V wr ∧ Hid (wr.ownsRow V.heap.size 3 1 (.slice A dn.length c) dn.length (dn.map (Value.int .i64)))) (fun s10 _ _ => cs.length - (match s10 with | .slice _ n _ => n | _ => 0))
  case atStart => exact ⟨[], cs, P, none, 0, rfl, rfl, Lib.hid rfl, PDV, Kept.refl _ _, Lib.hid (World.ownsRow_nil _ _ _ _)⟩
  case round =>
    obtain ⟨dn, rs, Q, A, c, rfl, rfl, hcs, pdr, hkr, own⟩ := hrel
    have hlen : Hid (dn.length + rs.length = cs.length) := by show _ = _; rw [← hcs.out]; simp
    have hBr := hkr.below hBV hBV.size (by simp)
    cases rs with
    | cons c0 r =>
      obtain ⟨pb, Q', rfl, PB, PQ⟩ := pdr.out
      have PBr := hkr.blk (by simp) PB
      have ⟨PL, PC, PF⟩ := PBr
      have HPQ := Lib.hid PQ
      have hpb := PB.1
      have hsz := hkr.size
      have hl2 := hlen.out
      have hn3 := HN3.out
      simp only [List.length_cons] at hl2
      clear CG FG PQ
      go_wp2_with (first
        | (at_builtin; refine wpList_append_rd _ rfl _ _ 26 rfl V.heap.size 3 i0 (.int .i64 0) 1 8 Try.underlying26 hi hz0 hz1 hz2 rfl (by decide) (.slice A dn.length c) dn.length (dn.map (Value.int .i64)) rfl (own_alloc own.out _) (some ⟨wr.heap.size, 0, none⟩) 1 1 [.int .i64 c0] rfl (Rd.new1 _ _ _ _ rfl) (fun h => by cases h) (by intro u hu; simp at hu; subst hu; rfl) (dn ++ [c0]).length (by simp) ((dn ++ [c0]).map (Value.int .i64)) (by simp) (by unfold maxLen; simp; omega) (by simp; omega) (by simp; omega) ?_; intro A9 c9 w4 hown4 hk4 hat4; have HX : Hid (∀ y ∈ (Value.slice A dn.length c).ownBlock.toList, V.heap.size ≤ y) := (fun y hy => own_ge own.out (by simpa using hy)); have ⟨PL4, PC4, PF4⟩ := hk4.blk (fun hy => by have := HX.out pb hy; omega) (PBr.alloc _); have hk5 := Lib.hid ((hkr.alloc (.cells #[.int .i64 c0] 3)).next hk4 (fun y hy => Or.inr (HX.out y hy))); have HO4 := Lib.hid hown4; clear hown4 hk4 hat4)
        | go_in)
      refine ⟨⟨dn ++ [c0], r, Q', A9, c9, by simp, rfl, Lib.hid (by rw [← hcs.out]; simp), HPQ, hk5.out, HO4⟩, ?_⟩
      simp
      omega
    | nil =>
      obtain rfl : Q = none := pdr.out
      have hdn : Hid (dn = cs) := by have := hcs.out; rwa [List.append_nil] at this
      have HFo2 : Hid (Sp.followS ns es mn fr path = (0, a, dn)) := by show _ = _; rw [HFo.out, show er = 0 from H0.out, hdn.out]
      have hn3 : dn.length ≤ 1000000 := by have := HN3.out; rw [← hdn.out] at this; exact this
      clear CG FG
      go_wp2_with fail
      by_cases hd0 : dn.length = 0
      · have HD0 := Lib.hid (List.length_eq_zero_iff.mp hd0)
        rw [hd0]
        refine (reverse_nil _ _ _).mono ?_
        rintro e w6 ⟨rfl, rfl⟩
        clear hd0
        go_wp2_with fail
        go_ret2
        refine ⟨A, 0, c, ?_, ?_, fun _ => rfl, hBr⟩
        · rw [HFo2.out]
          rfl
        · rw [HFo2.out, HD0.out]
          exact Ints.empty _ _
      · obtain ⟨g', cap, hv, hbase, hlt, hle, hmx, hll, hH⟩ := Lib.holds_of_ownsRow own.out (fun hh => hd0 (by injection hh))
        injection hv with e1 e2 e3
        subst e1
        have hH' := Lib.hid hH
        refine (reverse_any g' 0 dn.length _ dn _ rfl hn3 hlt (fun j hj => by have := (hH j (by simpa using hj)).1; simp only [Nat.zero_add] at this ⊢; rw [this]; simp [hj, gi]) (fun j hj => by have := (hH j (by simpa using hj)).2; simpa using this)).mono ?_
        rintro e w6 ⟨rfl, hk6, hc6⟩
        have HC6 := Lib.hid hc6
        have hB6 := Lib.hid (hk6.below hBr hBr.size (by simp; have := hBV.size; omega))
        have hlt6 : g' < w6.heap.size := Nat.lt_of_lt_of_le hlt hk6.size
        clear hc6 hH hd0
        go_wp2_with fail
        go_ret2
        refine ⟨some ⟨g', 0, none⟩, dn.length, cap, ?_, ?_, (fun h => by cases h), hB6.out⟩
        · rw [HFo2.out]
          rfl
        · rw [HFo2.out]
          exact ⟨by simp, fun _ => ⟨g', 0, rfl, hlt6, fun j hj => HC6.out j hj⟩⟩
end Go.Proofs.Ytmbihjlflcjlnaa
