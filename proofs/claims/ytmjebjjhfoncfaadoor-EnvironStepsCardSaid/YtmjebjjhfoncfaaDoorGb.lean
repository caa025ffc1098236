/- The law EnvironSteps. -/
import Derived.Test.YtmjebjjhfoncfaaDoorGa
import Derived.Test.YtmjebjjhfoncfaaDoorEu
import Derived.Test.YtmjebjjhfoncfaaDoorLf
namespace Go.Df
open Go.RowKit
theorem Blk.set6 {w : World} {b : Nat} {v0 v1 v2 v3 v4 v5 : Value} (h : BlkN w b 6) : Blk ((((((w.setCell ⟨b, 0, none⟩ v0).setCell ⟨b, 1, none⟩ v1).setCell ⟨b, 2, none⟩ v2).setCell ⟨b, 3, none⟩ v3).setCell ⟨b, 4, none⟩ v4).setCell ⟨b, 5, none⟩ v5) b [v0, v1, v2, v3, v4, v5] := by
  obtain ⟨C, hn, h⟩ := h
  match C, hn with
  | [a0, a1, a2, a3, a4, a5], _ => exact (((((h.set 0 v0).set 1 v1).set 2 v2).set 3 v3).set 4 v4).set 5 v5
theorem Rd.new4 (w : World) (b : Nat) (u0 u1 u2 u3 : Value) (t : TypeId) (hb : b = w.heap.size) : Rd (w.alloc (.cells #[u0, u1, u2, u3] t)) 4 (some ⟨b, 0, none⟩) 1 [u0, u1, u2, u3] := by
  subst hb
  refine ⟨rfl, fun _ => ⟨_, _, rfl, by simp, fun j _ => ?_⟩⟩
  rw [World.cell?_alloc_new, Nat.zero_add]; simp
/-- The cells of seeds. -/
def scells (l : List Sp.Vs) : List Value := l.flatMap fun s => [.int .i64 s.n, .int .i64 s.f, .int .i64 s.k, .int .i64 s.v]
theorem scells_snoc (l : List Sp.Vs) (s : Sp.Vs) : scells (l ++ [s]) = scells l ++ [.int .i64 s.n, .int .i64 s.f, .int .i64 s.k, .int .i64 s.v] := by simp [scells]
theorem scells_len : ∀ l : List Sp.Vs, (scells l).length = l.length * 4
  | [] => rfl
  | s :: l => by
    have := scells_len l
    simp [scells] at this ⊢
    omega
theorem scells_at : ∀ (l : List Sp.Vs) {i : Nat}, i < l.length → (scells l)[i * 4]? = some (.int .i64 (Sp.gs l i).n) ∧ (scells l)[i * 4 + 1]? = some (.int .i64 (Sp.gs l i).f) ∧ (scells l)[i * 4 + 2]? = some (.int .i64 (Sp.gs l i).k) ∧ (scells l)[i * 4 + 3]? = some (.int .i64 (Sp.gs l i).v)
  | s :: l, 0, _ => by simp [scells, Sp.gs]
  | s :: l, i + 1, h => by
    have h1 := scells_at l (i := i) (by simpa using h)
    have e : scells (s :: l) = [.int .i64 s.n, .int .i64 s.f, .int .i64 s.k, .int .i64 s.v] ++ scells l := rfl
    have e2 : Sp.gs (s :: l) (i + 1) = Sp.gs l i := by simp [Sp.gs]
    rw [e, e2]
    refine ⟨?_, ?_, ?_, ?_⟩
    · rw [List.getElem?_append_right (by simp; omega), show (i + 1) * 4 - [Value.int .i64 s.n, .int .i64 s.f, .int .i64 s.k, .int .i64 s.v].length = i * 4 by simp; omega]; exact h1.1
    · rw [List.getElem?_append_right (by simp; omega), show (i + 1) * 4 + 1 - [Value.int .i64 s.n, .int .i64 s.f, .int .i64 s.k, .int .i64 s.v].length = i * 4 + 1 by simp; omega]; exact h1.2.1
    · rw [List.getElem?_append_right (by simp; omega), show (i + 1) * 4 + 2 - [Value.int .i64 s.n, .int .i64 s.f, .int .i64 s.k, .int .i64 s.v].length = i * 4 + 2 by simp; omega]; exact h1.2.2.1
    · rw [List.getElem?_append_right (by simp; omega), show (i + 1) * 4 + 3 - [Value.int .i64 s.n, .int .i64 s.f, .int .i64 s.k, .int .i64 s.v].length = i * 4 + 3 by simp; omega]; exact h1.2.2.2
/-- A row of seeds of one's own reads as seeds. -/
theorem vss_own {w : World} {base : Nat} {e : TypeId} {A : Option Addr} {n c : Nat} {l : List Sp.Vs} (h : w.ownsRow base e 4 (.slice A n c) n (scells l)) (hn : l.length = n) : Vss w A n l ∧ n ≤ c := by
  rcases Nat.eq_zero_or_pos n with h0 | h0
  · subst h0
    exact ⟨⟨hn, fun h => absurd h (by omega)⟩, Nat.zero_le _⟩
  · obtain ⟨g, c', hv, -, hg, hc, -, hcell, -⟩ := own_cells h h0
    injection hv with e1 e2 e3
    subst e1 e3
    refine ⟨⟨hn, fun _ => ⟨g, 0, rfl, hg, fun i hi => ?_⟩⟩, hc⟩
    obtain ⟨h1, h2, h3, h4⟩ := scells_at l (i := i) (by omega)
    simp only [Nat.zero_add]
    exact ⟨(hcell _ (by omega)).trans h1, (hcell _ (by omega)).trans h2, (hcell _ (by omega)).trans h3, (hcell _ (by omega)).trans h4⟩
/-- Nothing that was there has turned but the blocks of X; blocks ga, gb and gc have not. -/
abbrev SXq (X : List Nat) (ga gb gc : Nat) (W w' : World) : Prop := Kept X W w' ∧ (∀ o, w'.cell? ⟨ga, o, none⟩ = W.cell? ⟨ga, o, none⟩) ∧ (∀ o, w'.cell? ⟨gb, o, none⟩ = W.cell? ⟨gb, o, none⟩) ∧ (∀ o, w'.cell? ⟨gc, o, none⟩ = W.cell? ⟨gc, o, none⟩)
theorem SXq.of {X : List Nat} {ga gb gc : Nat} {W w' : World} (h : Kept X W w') (ha : ga < W.heap.size) (hb : gb < W.heap.size) (hc : gc < W.heap.size) (xa : ga ∉ X) (xb : gb ∉ X) (xc : gc ∉ X) : SXq X ga gb gc W w' := ⟨h, fun o => h.cell ga o ha xa, fun o => h.cell gb o hb xb, fun o => h.cell gc o hc xc⟩
end Go.Df
namespace Go.Proofs.YtmjebjjhfoncfaaDoor
open Go.RowKit Go.Df
attribute [local go_sem ↓] Go.wp_at_zero Go.wp_at_succ
theorem one_ints (w : World) (x : Int) (t : TypeId) (b : Nat) (hb : b = w.heap.size) : Ints (w.alloc (.cells #[.int .i64 x] t)) (some ⟨b, 0, none⟩) 1 [x] := by
  subst hb
  refine ⟨rfl, fun _ => ⟨_, _, rfl, by simp, fun i hi => ?_⟩⟩
  rw [World.cell?_alloc_new, Nat.zero_add]
  match i, hi with
  | 0, _ => rfl
theorem grQ {w : World} {bn be : Nat} (xn : Blk w bn [.int .i64 0, .int .i64 1, .int .i64 (-1), .int .i64 0, .int .i64 2, .int .i64 0, .int .i64 0, .int .i64 3, .int .i64 (-1), .int .i64 0, .int .i64 4, .int .i64 (-1)]) (xe : Blk w be [.int .i64 0, .int .i64 1, .int .i64 1, .int .i64 (-1)]) : Gr w (some ⟨bn, 0, none⟩) 4 (some ⟨be, 0, none⟩) 1 nsQ esQ := by
  refine ⟨⟨rfl, fun _ => ⟨bn, 0, rfl, xn.1, fun i hi => ?_⟩⟩, ⟨rfl, fun _ => ⟨be, 0, rfl, xe.1, fun i hi => ?_⟩⟩, fun i hi => ?_, fun i hi => ?_⟩
  · match i, hi with
    | 0, _ => exact ⟨xn.2.1 0, xn.2.1 1, xn.2.1 2⟩
    | 1, _ => exact ⟨xn.2.1 3, xn.2.1 4, xn.2.1 5⟩
    | 2, _ => exact ⟨xn.2.1 6, xn.2.1 7, xn.2.1 8⟩
    | 3, _ => exact ⟨xn.2.1 9, xn.2.1 10, xn.2.1 11⟩
  · match i, hi with
    | 0, _ => exact ⟨xe.2.1 0, xe.2.1 1, xe.2.1 2, xe.2.1 3⟩
  · match i, hi with
    | 0, _ => rfl
    | 1, _ => rfl
    | 2, _ => rfl
    | 3, _ => rfl
  · match i, hi with
    | 0, _ => exact ⟨rfl, rfl⟩
theorem flsQ {w : World} {bf : Nat} {Al : Option Addr} {nl cl : Nat} {ps : List Sp.Xp} (h : Blk w bf [.slice Al nl cl]) (hx : Xps w Al nl ps) : Fls w (some ⟨bf, 0, none⟩) 1 [ps] := by
  refine ⟨rfl, fun _ => ⟨bf, 0, rfl, h.1, fun i hi => ?_⟩⟩
  match i, hi with
  | 0, _ => exact ⟨_, _, _, h.2.1 0, hx⟩
theorem vseed_info : (Tryd.prog.info? 54).map (fun i => (i.zero, i.size, i.bytes)) = some (some (.agg #[.int .i64 0, .int .i64 0, .int .i64 0, .int .i64 0]), 4, 32) := by kernel_rfl

set_option maxRecDepth 100000 in
set_option maxHeartbeats 40000000 in
theorem envSteps_any (A1 A2 A3 A4 A5 : Option Addr) (n1 c1 n2 c2 n3 c3 n4 c4 n5 c5 : Nat) (mn F : Int) (ns : List Sp.Nd) (es : List Sp.Ed) (ls : List (List Sp.Xp)) (sd : List Sp.Vs) (path : List Int) (w : World) (hg : Gr w A1 n1 A2 n2 ns es) (hf : Fls w A3 n3 ls) (hs : Vss w A4 n4 sd) (hp : SIn w A5 n5 c5 path) (hc4 : n4 ≤ c4) (hgv : Gv w) :
    Calls Tryd.prog 5 #[.agg #[.slice A1 n1 c1, .slice A2 n2 c2, .int .i64 mn, .int .i64 F, .slice A3 n3 c3, .slice A4 n4 c4], .slice A5 n5 c5] w fun e w' => e = .returned (.bool true) ∧ Below w.heap.size w w' := by
  have HG := Lib.hid hg
  have HF := Lib.hid hf
  have HS := Lib.hid hs
  have HP := Lib.hid hp
  have HPN := Lib.hid hp.1.1
  have HGV := Lib.hid hgv
  have hcap : n5 ≤ c5 := hp.2.1
  clear hg hf hs hp hgv
  go_enter Tryd.func5, Tryd.ntmps5
  go_upto_region 1 with fail
  refine wp_named (fun W => ∃ b0, w.heap.size = b0 ∧ Blk W b0 [.slice A1 n1 c1, .slice A2 n2 c2, .int .i64 mn, .int .i64 F, .slice A3 n3 c3, .slice A4 n4 c4] ∧ Below w.heap.size w W) ⟨_, rfl, ?_, ?_⟩ ?_
  · exact Blk.new _ _ _ _ (by first | rfl | simp)
  · go_grown
  rintro W ⟨b0, e0, B0, hB⟩
  rw [e0]
  have G0 : w.heap.size ≤ b0 := by omega
  clear e0
  have ⟨L0, C0, F0⟩ := B0
  have hkW : Kept [] w W := (Kept.refl _ _).call hB
  go_wp2_with fail
  refine (small_any A1 A2 A3 A4 n1 c1 n2 c2 n3 c3 n4 c4 mn F ls _ (HF.out.later hB)).mono ?_
  rintro e w1 ⟨s, rfl, hsm, hb1⟩
  have hk1 : Kept [] W w1 := (Kept.refl _ _).call hb1
  have hkw1 : Kept [] w w1 := keptTrans hkW hk1
  have ⟨L1, C1, F1⟩ := hk1.blk (by simp) B0
  clear C0 F0
  cases s with
  | false =>
    go_wp2_with fail
    go_ret
    exact ⟨rfl, hkw1.toBelow⟩
  | true =>
  have hsz := hsm rfl
  clear hsm
  by_cases h50 : n5 = 0
  · subst h50
    go_wp2_with fail
    go_ret
    exact ⟨rfl, hkw1.toBelow⟩
  have y1 : ((n5 : Int) == 0) = false := by simp; omega
  have y2 : (n5 == 0) = false := by simp; omega
  by_cases t5 : 30 < n5
  · have d5 : decide ((30 : Int) < n5) = true := by simp; omega
    go_wp2_with fail
    go_ret
    exact ⟨rfl, hkw1.toBelow⟩
  have d5 : decide ((30 : Int) < n5) = false := by simp; omega
  obtain ⟨ie, hie⟩ : ∃ ie, Sp.ideErr ns es mn F ls sd = ie := ⟨_, rfl⟩
  have HIE := Lib.hid hie
  clear hie
  go_wp2_with fail
  refine (rideck_any A1 A2 A3 A4 n1 c1 n2 c2 n3 c3 n4 c4 mn F ns es ls sd _ (HG.out.nd.later hkw1.toBelow) (HG.out.ed.later hkw1.toBelow) (HF.out.later hkw1.toBelow) (HS.out.later hkw1.toBelow) (by omega)).mono ?_
  rw [HIE.out]
  rintro e w2 ⟨rfl, hb2⟩
  have hk2 : Kept [] W w2 := hk1.call hb2
  have hkw2 : Kept [] w w2 := keptTrans hkW hk2
  have ⟨L2, C2, F2⟩ := hk2.blk (by simp) B0
  clear C1 F1
  by_cases h0 : ie = 0
  case neg =>
    have h0' : (ie != 0) = true := by simpa using h0
    clear h0
    go_wp2_with fail
    go_ret
    exact ⟨rfl, hkw2.toBelow⟩
  subst h0
  obtain ⟨fe, fa, fc, hfe⟩ : ∃ a b c, Sp.followS ns es mn mn path = (a, b, c) := ⟨_, _, _, rfl⟩
  have HFE := Lib.hid hfe
  clear hfe
  go_wp2_with fail
  refine (rcheck_any A1 A2 A5 n1 c1 n2 c2 n5 c5 mn mn ns es path _ (HG.out.kept hkw2) (HP.out.1.later hkw2.toBelow) fe fa fc HFE.out).mono ?_
  rintro e w3 ⟨rfl, hb3⟩
  have hk3 : Kept [] W w3 := hk2.call hb3
  have hkw3 : Kept [] w w3 := keptTrans hkW hk3
  have ⟨L3, C3, F3⟩ := hk3.blk (by simp) B0
  clear C2 F2
  by_cases h0 : fe = 0
  case neg =>
    have h0' : (fe != 0) = true := by simpa using h0
    clear h0
    go_wp2_with fail
    go_ret
    exact ⟨rfl, hkw3.toBelow⟩
  subst h0
  have hok := ide_parts HIE.out
  obtain ⟨Fn, rfl⟩ := Int.eq_ofNat_of_zero_le (show 0 ≤ F by have := hok.f1; omega)
  have hFn1 : 1 ≤ Fn := by have := hok.f1; omega
  have hFn6 : Fn ≤ 6 := by omega
  have HO := Lib.hid hok
  have HPI := Lib.hid (follow_in (path := path) (ns := ns) (es := es) (mn := mn) (fr := mn) (by rw [HFE.out]))
  have HFT := Lib.hid (follow_take (n5 - 1) (show (Sp.followS ns es mn mn path).1 = 0 by rw [HFE.out]))
  clear hok
  obtain ⟨b5, o5, rfl, hl5, hc5⟩ := HP.out.1.2 (by omega)
  have hpj := HPI.out.2 (n5 - 1) (by rw [HPN.out]; omega)
  obtain ⟨k, hk⟩ := Int.eq_ofNat_of_zero_le hpj.1
  have hk2n : k < n2 := by have := HG.out.ed.1; omega
  have hk3n : k < n3 := by have := HG.out.ed.1; have := HF.out.1; have := HO.out.len; omega
  have r5 : w3.cell? ⟨b5, o5 + (n5 - 1), none⟩ = some (.int .i64 k) := by rw [← hk]; exact (hkw3.cell b5 _ hl5 (by simp)).trans (hc5 (n5 - 1) (by omega))
  have hl5r : b5 < w3.heap.size := Nat.lt_of_lt_of_le hl5 hkw3.size
  have HK := Lib.hid hk
  have x3 : IntKind.i64.wrap ((n5 : Int) - 1) = (n5 : Int) - 1 := IntWalk.i64_in _ (by omega)
  have x4 : (0 : Int) ≤ (n5 : Int) - 1 := by omega
  have x5 : ((n5 : Int) - 1).toNat = n5 - 1 := by omega
  have x7 : (n5 : Int) - 1 < (n5 : Int) := by omega
  have x9 : 1 ≤ n5 := by omega
  have x10 : (1 : Int) ≤ (n5 : Int) := by omega
  have x11 : (n5 : Int) - 1 ≤ (c5 : Int) := by omega
  clear hk hpj hc5 h50
  have HER1 : Hid (alErr ns es mn Fn ls sd (path.take (n5 - 1)) = 0) := by show _ = _; unfold alErr; rw [HIE.out, if_neg (by simp)]; exact HFT.out
  have HER2 : Hid (alErr ns es mn Fn ls sd path = 0) := by show _ = _; unfold alErr; rw [HIE.out, if_neg (by simp), HFE.out]
  have HT : Hid (runJ Xf.rmeetV Xf.rapply es ls sd mn (path.take (n5 - 1)) (path.take (n5 - 1)).length = runJ Xf.rmeetV Xf.rapply es ls sd mn path (n5 - 1)) := by
    show _ = _
    rw [List.length_take, HPN.out, Nat.min_eq_left (by omega), runJ_take _ (Nat.le_refl _)]
  have HP1 := Lib.hid (HP.out.front (show n5 - 1 ≤ n5 by omega))
  go_upto_region 4 with fail
  refine wp_region_E 11 (fun w' => SX0 w3 w') (by kernel_rfl) (by (repeat' first | (with_reducible assumption) | (with_reducible exact SX0.init _) | (with_reducible exact SX0.refl _) | (with_reducible refine SX0.alloc ?_ _) | (with_reducible refine SX0.call ?_ (by assumption)) | (with_reducible refine SX0.set ?_ _ _ _ ?_) | (with_reducible refine SX0.drew ?_) | (simp; done) | omega | (simp; omega))) (fun hHeld => ?_)
  refine WE_take 0 (v := ?_) rfl (by kernel_rfl) (fun _ _ _ h => h) (Or.inl ⟨by rfl, ?_⟩) (by assumption) ?_; rotate_left; (· intro w9 hSw; (try dsimp only at hSw); go_simp; try with_reducible rfl); (try simp only [Act.put, List.setIfInBounds_toArray, List.set_cons_zero, List.set_cons_succ])
  refine WE_take 1 (v := ?_) rfl (by kernel_rfl) (fun _ _ _ h => h) (Or.inl ⟨by rfl, ?_⟩) (by assumption) ?_; rotate_left; (· intro w9 hSw; (try dsimp only at hSw); go_simp; try with_reducible rfl); (try simp only [Act.put, List.setIfInBounds_toArray, List.set_cons_zero, List.set_cons_succ])
  refine WE_take 2 (v := ?_) rfl (by kernel_rfl) (fun _ _ _ h => h) (Or.inl ⟨by rfl, ?_⟩) (by assumption) ?_; rotate_left; (· intro w9 hSw; (try dsimp only at hSw); go_simp; try with_reducible rfl); (try simp only [Act.put, List.setIfInBounds_toArray, List.set_cons_zero, List.set_cons_succ])
  refine WE_take 3 (v := ?_) rfl (by kernel_rfl) (fun _ _ _ h => h) (Or.inl ⟨by rfl, ?_⟩) (by assumption) ?_; rotate_left; (· intro w9 hSw; (try dsimp only at hSw); go_simp; try with_reducible rfl); (try simp only [Act.put, List.setIfInBounds_toArray, List.set_cons_zero, List.set_cons_succ])
  refine WE_take 4 (v := ?_) rfl (by kernel_rfl) (fun _ _ _ h => h) (Or.inl ⟨by rfl, ?_⟩) (by assumption) ?_; rotate_left; (· intro w9 hSw; (try dsimp only at hSw); go_simp; try with_reducible rfl); (try simp only [Act.put, List.setIfInBounds_toArray, List.set_cons_zero, List.set_cons_succ])
  refine WE_take 5 (v := ?_) rfl (by kernel_rfl) (fun _ _ _ h => h) (Or.inl ⟨by rfl, ?_⟩) (by assumption) ?_; rotate_left; (· intro w9 hSw; (try dsimp only at hSw); go_simp; try with_reducible rfl); (try simp only [Act.put, List.setIfInBounds_toArray, List.set_cons_zero, List.set_cons_succ])
  refine WE_step 6 rfl (by kernel_rfl) (fun K hK => ?_)
  go_simp
  (go_at_call 9; refine (pAlong_any A1 A2 A3 A4 (some ⟨b5, o5, none⟩) n1 c1 n2 c2 n3 c3 n4 c4 (n5 - 1) c5 mn Fn ns es ls sd (path.take (n5 - 1)) _ (HG.out.kept hkw3.drew) (HF.out.later (hkw3.drew).toBelow) (HS.out.later (hkw3.drew).toBelow) (HP1.out.1.later (hkw3.drew).toBelow) (by omega) hc4 (HGV.out.later (hkw3.drew).toBelow) 0 HER1.out).mono ?_; rintro e w4 ⟨⟨hn, -⟩ | ⟨-, g4, c4', rfl, hv4, hg4, hc4'⟩, hb4⟩; (· exact absurd rfl hn); rw [Int.toNat_natCast, HT.out] at hv4; rw [Int.toNat_natCast]; have V4 := Lib.hid hv4; clear hv4)
  (try go_wp2_with fail)
  refine hK.out _ _ ?_ (fun hHeld => ?_)
  · (repeat' first | (with_reducible assumption) | (with_reducible exact SX0.init _) | (with_reducible exact SX0.refl _) | (with_reducible refine SX0.alloc ?_ _) | (with_reducible refine SX0.call ?_ (by assumption)) | (with_reducible refine SX0.set ?_ _ _ _ ?_) | (with_reducible refine SX0.drew ?_) | (simp; done) | omega | (simp; omega))
  clear hK K
  try simp only [Act.put, List.setIfInBounds_toArray, List.set_cons_zero, List.set_cons_succ]
  refine WE_take 7 (v := ?_) rfl (by kernel_rfl) (fun _ _ _ h => h) (Or.inl ⟨by rfl, ?_⟩) (by assumption) ?_; rotate_left; (· intro w9 hSw; (try dsimp only at hSw); go_simp; try with_reducible rfl); (try simp only [Act.put, List.setIfInBounds_toArray, List.set_cons_zero, List.set_cons_succ])
  refine WE_take 8 (v := ?_) rfl (by kernel_rfl) (fun _ _ _ h => h) (Or.inl ⟨by rfl, ?_⟩) (by assumption) ?_; rotate_left; (· intro w9 hSw; (try dsimp only at hSw); go_simp; try with_reducible rfl); (try simp only [Act.put, List.setIfInBounds_toArray, List.set_cons_zero, List.set_cons_succ])
  refine WE_take 9 (v := ?_) rfl (by kernel_rfl) (fun _ _ _ h => h) (Or.inl ⟨by rfl, ?_⟩) (by assumption) ?_; rotate_left; (· intro w9 hSw; (try dsimp only at hSw); go_simp; try with_reducible rfl); (try simp only [Act.put, List.setIfInBounds_toArray, List.set_cons_zero, List.set_cons_succ])
  refine WE_take 10 (v := ?_) rfl (by kernel_rfl) (fun _ _ _ h => h) (Or.inl ⟨by rfl, ?_⟩) (by assumption) ?_; rotate_left; (· intro w9 hSw; (try dsimp only at hSw); go_simp; try with_reducible rfl); (try simp only [Act.put, List.setIfInBounds_toArray, List.set_cons_zero, List.set_cons_succ])
  refine WE_last rfl (by kernel_rfl) (fun K hK => ?_)
  go_simp
  refine hK.out _ _ ?_
  clear hK K
  have hk4 : Kept [] w3 w4 := hHeld.1
  have hkW4 : Kept [] W w4 := keptTrans hk3 hk4
  have hkw4 : Kept [] w w4 := keptTrans hkw3 hk4
  have ⟨L4, C4, F4⟩ := hkW4.blk (by simp) B0
  clear C3 F3 r5 hHeld x3 x4 x5 x7 x10 x11
  go_wp2_with fail
  refine (pAlong_any A1 A2 A3 A4 (some ⟨b5, o5, none⟩) n1 c1 n2 c2 n3 c3 n4 c4 n5 c5 mn Fn ns es ls sd path _ (HG.out.kept hkw4) (HF.out.later hkw4.toBelow) (HS.out.later hkw4.toBelow) (HP.out.1.later hkw4.toBelow) (by omega) hc4 (HGV.out.later hkw4.toBelow) 0 HER2.out).mono ?_
  rintro e w5 ⟨⟨hn, -⟩ | ⟨-, g5, c5', rfl, hv5, hg5, hc5'⟩, hb5⟩
  · exact absurd rfl hn
  rw [Int.toNat_natCast, HPN.out] at hv5
  rw [Int.toNat_natCast]
  have V5 := Lib.hid hv5
  have V45 := Lib.hid (V4.out.later hb5)
  have V5lt : Hid (g5 < w5.heap.size) := Lib.hid V5.out.lt
  have V4lt : Hid (g4 < w5.heap.size) := Lib.hid V45.out.lt
  have hkw5 : Kept [] w w5 := hkw4.call hb5
  have hkW5 : Kept [] W w5 := hkW4.call hb5
  have ⟨L5, C5, F5⟩ := hkW5.blk (by simp) B0
  clear C4 F4 hv5 V4
  obtain ⟨b3, o3, Al, nl, cl, rfl, hl3, hc3, hxp⟩ := HF.out.row hkw5.toBelow hk3n
  have HX := Lib.hid hxp
  have hl3r : b3 < w5.heap.size := Nat.lt_of_lt_of_le hl3 hkw5.size
  have hk3' : (k : Int) < (n3 : Int) := by omega
  clear hxp
  go_upto_region 8 with fail
  refine wp_region_E 18 (fun w' => SX0 w5 w') (by kernel_rfl) (by (repeat' first | (with_reducible assumption) | (with_reducible exact SX0.init _) | (with_reducible exact SX0.refl _) | (with_reducible refine SX0.alloc ?_ _) | (with_reducible refine SX0.call ?_ (by assumption)) | (with_reducible refine SX0.set ?_ _ _ _ ?_) | (with_reducible refine SX0.drew ?_) | (simp; done) | omega | (simp; omega))) (fun hHeld => ?_)
  refine WE_take 0 (v := ?_) rfl (by kernel_rfl) (fun _ _ _ h => h) (Or.inl ⟨by rfl, ?_⟩) (by assumption) ?_; rotate_left; (· intro w9 hSw; (try dsimp only at hSw); go_simp; try with_reducible rfl); (try simp only [Act.put, List.setIfInBounds_toArray, List.set_cons_zero, List.set_cons_succ])
  refine WE_take 1 (v := ?_) rfl (by kernel_rfl) (fun _ _ _ h => h) (Or.inl ⟨by rfl, ?_⟩) (by assumption) ?_; rotate_left; (· intro w9 hSw; (try dsimp only at hSw); go_simp; try with_reducible rfl); (try simp only [Act.put, List.setIfInBounds_toArray, List.set_cons_zero, List.set_cons_succ])
  refine WE_take 2 (v := ?_) rfl (by kernel_rfl) (fun _ _ _ h => h) (Or.inl ⟨by rfl, ?_⟩) (by assumption) ?_; rotate_left; (· intro w9 hSw; (try dsimp only at hSw); go_simp; try with_reducible rfl); (try simp only [Act.put, List.setIfInBounds_toArray, List.set_cons_zero, List.set_cons_succ])
  refine WE_take 3 (v := ?_) rfl (by kernel_rfl) (fun _ _ _ h => h) (Or.inl ⟨by rfl, ?_⟩) (by assumption) ?_; rotate_left; (· intro w9 hSw; (try dsimp only at hSw); go_simp; try with_reducible rfl); (try simp only [Act.put, List.setIfInBounds_toArray, List.set_cons_zero, List.set_cons_succ])
  refine WE_take 5 (v := ?_) rfl (by kernel_rfl) (fun _ _ _ h => h) (Or.inl ⟨by rfl, ?_⟩) (by assumption) ?_; rotate_left; (· intro w9 hSw; (try dsimp only at hSw); go_simp; try with_reducible rfl); (try simp only [Act.put, List.setIfInBounds_toArray, List.set_cons_zero, List.set_cons_succ])
  refine WE_take 8 (v := ?_) rfl (by kernel_rfl) (fun _ _ _ h => h) (Or.inl ⟨by rfl, ?_⟩) (by assumption) ?_; rotate_left; (· intro w9 hSw; (try dsimp only at hSw); go_simp; try with_reducible rfl); (try simp only [Act.put, List.setIfInBounds_toArray, List.set_cons_zero, List.set_cons_succ])
  refine WE_take 9 (v := ?_) rfl (by kernel_rfl) (fun _ _ _ h => h) (Or.inl ⟨by rfl, ?_⟩) (by assumption) ?_; rotate_left; (· intro w9 hSw; (try dsimp only at hSw); go_simp; try with_reducible rfl); (try simp only [Act.put, List.setIfInBounds_toArray, List.set_cons_zero, List.set_cons_succ])
  refine WE_take 10 (v := ?_) rfl (by kernel_rfl) (fun _ _ _ h => h) (Or.inl ⟨by rfl, ?_⟩) (by assumption) ?_; rotate_left; (· intro w9 hSw; (try dsimp only at hSw); go_simp; try with_reducible rfl); (try simp only [Act.put, List.setIfInBounds_toArray, List.set_cons_zero, List.set_cons_succ])
  refine WE_take 11 (v := ?_) rfl (by kernel_rfl) (fun _ _ _ h => h) (Or.inl ⟨by rfl, ?_⟩) (by assumption) ?_; rotate_left; (· intro w9 hSw; (try dsimp only at hSw); go_simp; try with_reducible rfl); (try simp only [Act.put, List.setIfInBounds_toArray, List.set_cons_zero, List.set_cons_succ])
  refine WE_take 12 (v := ?_) rfl (by kernel_rfl) (fun _ _ _ h => h) (Or.inl ⟨by rfl, ?_⟩) (by assumption) ?_; rotate_left; (· intro w9 hSw; (try dsimp only at hSw); go_simp; try with_reducible rfl); (try simp only [Act.put, List.setIfInBounds_toArray, List.set_cons_zero, List.set_cons_succ])
  refine WE_take 13 (v := ?_) rfl (by kernel_rfl) (fun _ _ _ h => h) (Or.inl ⟨by rfl, ?_⟩) (by assumption) ?_; rotate_left; (· intro w9 hSw; (try dsimp only at hSw); go_simp; try with_reducible rfl); (try simp only [Act.put, List.setIfInBounds_toArray, List.set_cons_zero, List.set_cons_succ])
  refine WE_take 14 (v := ?_) rfl (by kernel_rfl) (fun _ _ _ h => h) (Or.inl ⟨by rfl, ?_⟩) (by assumption) ?_; rotate_left; (· intro w9 hSw; (try dsimp only at hSw); go_simp; try with_reducible rfl); (try simp only [Act.put, List.setIfInBounds_toArray, List.set_cons_zero, List.set_cons_succ])
  refine WE_R [4, 6, 7, 15, 16, 17] (fun j v w t => match j with | 4 => ∃ g, v = .slice (some ⟨g, 0, none⟩) 4 4 ∧ BlkT w t g [.int .i64 0, .int .i64 1, .int .i64 (-1), .int .i64 0, .int .i64 2, .int .i64 0, .int .i64 0, .int .i64 3, .int .i64 (-1), .int .i64 0, .int .i64 4, .int .i64 (-1)] 1 ∧ w5.heap.size ≤ g | 6 => ∃ g, v = .slice (some ⟨g, 0, none⟩) 1 1 ∧ BlkT w t g [.int .i64 0, .int .i64 1, .int .i64 1, .int .i64 (-1)] 2 ∧ w5.heap.size ≤ g | 7 => ∃ g g', v = .agg #[.slice (some ⟨g, 0, none⟩) 4 4, .slice (some ⟨g', 0, none⟩) 1 1, .int .i64 0] ∧ (BlkT w t g [.int .i64 0, .int .i64 1, .int .i64 (-1), .int .i64 0, .int .i64 2, .int .i64 0, .int .i64 0, .int .i64 3, .int .i64 (-1), .int .i64 0, .int .i64 4, .int .i64 (-1)] 1 ∧ w5.heap.size ≤ g) ∧ (BlkT w t g' [.int .i64 0, .int .i64 1, .int .i64 1, .int .i64 (-1)] 2 ∧ w5.heap.size ≤ g') | 15 => ∃ g, v = .slice (some ⟨g, 0, none⟩) 1 1 ∧ BlkT w t g [.slice Al nl cl] 3 ∧ w5.heap.size ≤ g | 16 => ∃ g g' g'', v = .agg #[.slice (some ⟨g, 0, none⟩) 4 4, .slice (some ⟨g', 0, none⟩) 1 1, .int .i64 0, .int .i64 Fn, .slice (some ⟨g'', 0, none⟩) 1 1, .slice none 0 0] ∧ (BlkT w t g [.int .i64 0, .int .i64 1, .int .i64 (-1), .int .i64 0, .int .i64 2, .int .i64 0, .int .i64 0, .int .i64 3, .int .i64 (-1), .int .i64 0, .int .i64 4, .int .i64 (-1)] 1 ∧ w5.heap.size ≤ g) ∧ (BlkT w t g' [.int .i64 0, .int .i64 1, .int .i64 1, .int .i64 (-1)] 2 ∧ w5.heap.size ≤ g') ∧ (BlkT w t g'' [.slice Al nl cl] 3 ∧ w5.heap.size ≤ g'') | 17 => ∃ g, v = .pointer (some ⟨g, 0, none⟩) ∧ BlkT w t g [.slice none 0 0, .slice none 0 0, .int .i64 0, .int .i64 0, .slice none 0 0, .slice none 0 0] 4 ∧ w5.heap.size ≤ g | _ => False) rfl (by kernel_rfl) (fun vs => by simp only [putU, dstOf, Option.bind, List.getElem?_cons_zero, List.getElem?_cons_succ, Act.put, List.setIfInBounds_toArray, List.set_cons_zero, List.set_cons_succ]; rfl) ?_ ?_ ?_ ?_
  · intro j hj
    simp only [List.mem_cons, List.not_mem_nil, or_false] at hj
    rcases hj with rfl | rfl | rfl | rfl | rfl | rfl
    all_goals (intro v w t w' t' h hg; revert h; (repeat' first | (with_reducible exact id) | (exact fun h => BlkT.grow h hg) | (exact fun h => hg.1.blk (by simp) h) | (exact fun h => Nat.lt_of_lt_of_le h hg.1.size) | (refine Exists.imp (fun _ => ?_)) | (refine And.imp ?_ ?_)))
  · intro w9 t9 hg9; (have hHeld9 := keptTrans hHeld.1 hg9.1); exact SX0.of hHeld9
  · refine ⟨?_, ?_, ?_, ?_, ?_, ?_, trivial⟩
    · refine ⟨_, _, rfl, [], by kernel_rfl, fun vs w t hg hyp K hK => ?_⟩
      (try dsimp only)
      have hHg := keptTrans hHeld.1 hg.1
      have hHs := SX0.of hHg
      go_simp
      refine hK.out ?_ _ _ (Go.Df.mark t w.heap.size 1) ?_ ?_ ?_
      rotate_left
      · simp only [Act.put, List.setIfInBounds_toArray, List.set_cons_zero, List.set_cons_succ]; rfl
      · exact Grow.mark ((Kept.refl _ _).alloc _) (Nat.le_refl _)
      · exact ⟨_, rfl, BlkT.new _ _ _ _ _, hHg.size⟩
    · refine ⟨_, _, rfl, [], by kernel_rfl, fun vs w t hg hyp K hK => ?_⟩
      (try dsimp only)
      have hHg := keptTrans hHeld.1 hg.1
      have hHs := SX0.of hHg
      go_simp
      refine hK.out ?_ _ _ (Go.Df.mark t w.heap.size 2) ?_ ?_ ?_
      rotate_left
      · simp only [Act.put, List.setIfInBounds_toArray, List.set_cons_zero, List.set_cons_succ]; rfl
      · exact Grow.mark ((Kept.refl _ _).alloc _) (Nat.le_refl _)
      · exact ⟨_, rfl, BlkT.new _ _ _ _ _, hHg.size⟩
    · refine ⟨_, _, rfl, [4, 6], by kernel_rfl, fun vs w t hg hyp K hK => ?_⟩
      (try dsimp only)
      dsimp only [HypsR] at hyp
      obtain ⟨⟨g, hx4, h4⟩, ⟨g', hx6, h6⟩, -⟩ := hyp
      have hHg := keptTrans hHeld.1 hg.1
      have hHs := SX0.of hHg
      go_simp
      refine hK.out ?_ _ _ t ?_ ?_ ?_
      rotate_left
      · simp only [Act.put, List.setIfInBounds_toArray, List.set_cons_zero, List.set_cons_succ, hx4, hx6]; rfl
      · exact Grow.refl _ _
      · exact ⟨_, _, rfl, h4, h6⟩
    · refine ⟨_, _, rfl, [], by kernel_rfl, fun vs w t hg hyp K hK => ?_⟩
      (try dsimp only)
      have hHg := keptTrans hHeld.1 hg.1
      have hHs := SX0.of hHg
      go_simp
      refine hK.out ?_ _ _ (Go.Df.mark t w.heap.size 3) ?_ ?_ ?_
      rotate_left
      · simp only [Act.put, List.setIfInBounds_toArray, List.set_cons_zero, List.set_cons_succ]; rfl
      · exact Grow.mark ((Kept.refl _ _).alloc _) (Nat.le_refl _)
      · exact ⟨_, rfl, BlkT.new _ _ _ _ _, hHg.size⟩
    · refine ⟨_, _, rfl, [7, 15], by kernel_rfl, fun vs w t hg hyp K hK => ?_⟩
      (try dsimp only)
      dsimp only [HypsR] at hyp
      obtain ⟨⟨g, g', hx7, h4, h6⟩, ⟨g'', hx15, h15⟩, -⟩ := hyp
      have hHg := keptTrans hHeld.1 hg.1
      have hHs := SX0.of hHg
      go_simp
      refine hK.out ?_ _ _ t ?_ ?_ ?_
      rotate_left
      · simp only [Act.put, List.setIfInBounds_toArray, List.set_cons_zero, List.set_cons_succ, hx7, hx15]; rfl
      · exact Grow.refl _ _
      · exact ⟨_, _, _, rfl, h4, h6, h15⟩
    · refine ⟨_, _, rfl, [], by kernel_rfl, fun vs w t hg hyp K hK => ?_⟩
      (try dsimp only)
      have hHg := keptTrans hHeld.1 hg.1
      have hHs := SX0.of hHg
      go_simp
      refine hK.out ?_ _ _ (Go.Df.mark t w.heap.size 4) ?_ ?_ ?_
      rotate_left
      · simp only [Act.put, List.setIfInBounds_toArray, List.set_cons_zero, List.set_cons_succ]; rfl
      · exact Grow.mark ((Kept.refl _ _).alloc _) (Nat.le_refl _)
      · exact ⟨_, rfl, BlkT.new _ _ _ _ _, hHg.size⟩
  intro vs wz tz hgz hyp K hK
  (try dsimp only)
  dsimp only [HypsR] at hyp
  generalize vs 4 = x4 at hyp ⊢
  generalize vs 6 = x6 at hyp ⊢
  generalize vs 7 = x7 at hyp ⊢
  generalize vs 15 = x15 at hyp ⊢
  generalize vs 16 = x16 at hyp ⊢
  generalize vs 17 = x17 at hyp ⊢
  obtain ⟨-, -, -, -, ⟨bn, be, bf, rfl, BN, BE, BF⟩, ⟨g, rfl, BG⟩, -⟩ := hyp
  have hHz := keptTrans hHeld.1 hgz.1
  clear hHeld
  have ⟨LG, CG, FG⟩ := BG.1.blk
  go_simp
  refine hK.out _ _ ?_
  clear hK K
  obtain ⟨i0, hi, hz0, hz1, hz2⟩ := info_parts vseed_info
  have hgne : bn ≠ g ∧ be ≠ g ∧ bf ≠ g := ⟨BN.1.ne BG.1 (by decide), BE.1.ne BG.1 (by decide), BF.1.ne BG.1 (by decide)⟩
  refine then_named (fun V => Blk V g [.slice (some ⟨bn, 0, none⟩) 4 4, .slice (some ⟨be, 0, none⟩) 1 1, .int .i64 0, .int .i64 Fn, .slice (some ⟨bf, 0, none⟩) 1 1, .slice none 0 0] ∧ Blk V bn [.int .i64 0, .int .i64 1, .int .i64 (-1), .int .i64 0, .int .i64 2, .int .i64 0, .int .i64 0, .int .i64 3, .int .i64 (-1), .int .i64 0, .int .i64 4, .int .i64 (-1)] ∧ Blk V be [.int .i64 0, .int .i64 1, .int .i64 1, .int .i64 (-1)] ∧ Blk V bf [.slice Al nl cl] ∧ Kept [] w5 V) ⟨?_, ?_, ?_, ?_, ?_⟩ ?_
  · exact Blk.set6 (BG.1.blk.n rfl)
  · repeat' first | (with_reducible exact BN.1.blk) | ((with_reducible refine Blk.setOther ?_ _ _ _ ?_); rotate_left; (· exact hgne.1.symm))
  · repeat' first | (with_reducible exact BE.1.blk) | ((with_reducible refine Blk.setOther ?_ _ _ _ ?_); rotate_left; (· exact hgne.2.1.symm))
  · repeat' first | (with_reducible exact BF.1.blk) | ((with_reducible refine Blk.setOther ?_ _ _ _ ?_); rotate_left; (· exact hgne.2.2.symm))
  · repeat' first | (with_reducible exact hHz) | (with_reducible refine Kept.set ?_ _ _ _ (Or.inr BG.2))
  have hg5g : w5.heap.size ≤ g := BG.2
  have HNE := Lib.hid hgne
  have HGE : Hid (w5.heap.size ≤ bn ∧ w5.heap.size ≤ be ∧ w5.heap.size ≤ bf) := Lib.hid ⟨BN.2, BE.2, BF.2⟩
  clear LG CG FG BN BE BF BG hgne hHz hgz
  rintro V ⟨bg0, bn0, be0, bf0, hkV⟩
  have BGV := Lib.hid bg0
  have BNV := Lib.hid bn0
  have BEV := Lib.hid be0
  have BFV := Lib.hid bf0
  have hgV : g < V.heap.size := bg0.1
  have hkwV : Kept [] w V := keptTrans hkw5 hkV
  have hkWV : Kept [] W V := keptTrans hkW5 hkV
  have VL := Lib.hid (V45.out.kept hkV (by simp))
  have VM := Lib.hid (V5.out.kept hkV (by simp))
  obtain ⟨lf, hlf⟩ : ∃ f, runJ Xf.rmeetV Xf.rapply es ls sd mn path (n5 - 1) = f := ⟨_, rfl⟩
  rw [hlf] at VL
  have HLF := Lib.hid hlf
  clear bg0 bn0 be0 bf0 C5 F5 hc3 hlf V45 V5 hl3r
  have hb0V : b0 < V.heap.size := Nat.lt_of_lt_of_le L5 hkV.size
  have hb0g : b0 ≠ g := by have := L5; omega
  have hg4V : g4 < V.heap.size := VL.out.lt
  have HG5 : Hid (g5 < w5.heap.size) := V5lt
  have hg4g : g4 ≠ g := by have := V4lt.out; omega
  go_wp2_with fail
  go_loopw [11] (fun s wr => ∃ (j : Nat) (A : Option Addr) (c : Nat), j + 1 ≤ Fn ∧ s = .int .i64 (j + 1 : Nat) ∧ Kept [g] V wr ∧ Hid (Blk wr g [.slice (some ⟨bn, 0, none⟩) 4 4, .slice (some ⟨be, 0, none⟩) 1 1, .int .i64 0, .int .i64 Fn, .slice (some ⟨bf, 0, none⟩) 1 1, .slice A j c]) ∧ Hid (wr.ownsRow V.heap.size 54 4 (.slice A j c) j (scells (sdA lf j)))) (fun s _ => Fn - (intOf s).toNat)
  case atStart => exact ⟨0, none, 0, hFn1, rfl, Kept.refl _ _, BGV, Lib.hid (World.ownsRow_nil _ _ _ _)⟩
  case round =>
  obtain ⟨j, A, c, hj, rfl, hkr, bg, own⟩ := hrel
  have hsz := hkr.size
  have ⟨L0r, C0r, F0r⟩ := hkr.blk (by simpa using hb0g) (hkWV.blk (by simp) B0)
  have ⟨LGr, CGr, FGr⟩ := bg.out
  have HX : Hid (∀ y ∈ (Value.slice A j c).ownBlock.toList, V.heap.size ≤ y) := (fun y hy => own_ge own.out (by simpa using hy))
  have xg : g ∉ (Value.slice A j c).ownBlock.toList := fun hm => by have := HX.out g hm; omega
  have xg4 : g4 ∉ (Value.slice A j c).ownBlock.toList := fun hm => by have := HX.out g4 hm; omega
  have hgr : g < wr.heap.size := by omega
  have hg4r : g4 < wr.heap.size := by omega
  by_cases hlt : j + 1 < Fn
  · obtain ⟨⟨zk, zn⟩, hz⟩ : ∃ z, lf (j + 1) = z := ⟨_, rfl⟩
    have l0 := (hkr.cell g4 _ hg4V (by simpa using hg4g)).trans (VL.out.c0 (j + 1) hlt)
    have l1 := (hkr.cell g4 _ hg4V (by simpa using hg4g)).trans (VL.out.c1 (j + 1) hlt)
    rw [hz] at l0 l1
    have HAB : Hid (scells (sdA lf (j + 1)) = scells (sdA lf j) ++ [.int .i64 0, .int .i64 (j + 1 : Nat), .int .i64 zk, .int .i64 zn]) := by
      show _ = _
      rw [sdA_succ, scells_snoc, hz]
    have hj1 : ((j + 1 : Nat) : Int) < (Fn : Int) := by omega
    have hj2 : (0 : Int) ≤ ((j + 1 : Nat) : Int) := by omega
    obtain ⟨d, hd⟩ : ∃ d, j + 1 = d := ⟨_, rfl⟩
    rw [hd] at l0 l1 hj1 hj2 HAB ⊢
    have HD := Lib.hid hd
    clear hz hd
    go_upto_region 12 with fail
    refine wp_region_E 11 (fun w' => SXq (Value.slice A j c).ownBlock.toList g g4 g4 wr w') (by kernel_rfl) (by (first | (with_reducible assumption) | exact SXq.of (Kept.refl _ _).drew hgr hg4r hg4r xg xg4 xg4 | exact SXq.of (hHeld.1.alloc _) hgr hg4r hg4r xg xg4 xg4 | exact SXq.of HKA.out hgr hg4r hg4r xg xg4 xg4)) (fun hHeld => ?_)
    refine WE_take 0 (v := ?_) rfl (by kernel_rfl) (fun _ _ _ h => h) (Or.inl ⟨by rfl, ?_⟩) (by assumption) ?_; rotate_left; (· intro w9 hSw; (try dsimp only at hSw); go_simp; try with_reducible rfl); (try simp only [Act.put, List.setIfInBounds_toArray, List.set_cons_zero, List.set_cons_succ])
    refine WE_take 1 (v := ?_) rfl (by kernel_rfl) (fun _ _ _ h => h) (Or.inl ⟨by rfl, ?_⟩) (by assumption) ?_; rotate_left; (· intro w9 hSw; (try dsimp only at hSw); go_simp; try with_reducible rfl); (try simp only [Act.put, List.setIfInBounds_toArray, List.set_cons_zero, List.set_cons_succ])
    refine WE_take 2 (v := ?_) rfl (by kernel_rfl) (fun _ _ _ h => h) (Or.inl ⟨by rfl, ?_⟩) (by assumption) ?_; rotate_left; (· intro w9 hSw; (try dsimp only at hSw); go_simp; try with_reducible rfl); (try simp only [Act.put, List.setIfInBounds_toArray, List.set_cons_zero, List.set_cons_succ])
    refine WE_take 3 (v := ?_) rfl (by kernel_rfl) (fun _ _ _ h => h) (Or.inl ⟨by rfl, ?_⟩) (by assumption) ?_; rotate_left; (· intro w9 hSw; (try dsimp only at hSw); go_simp; try with_reducible rfl); (try simp only [Act.put, List.setIfInBounds_toArray, List.set_cons_zero, List.set_cons_succ])
    refine WE_take 4 (v := ?_) rfl (by kernel_rfl) (fun _ _ _ h => h) (Or.inl ⟨by rfl, ?_⟩) (by assumption) ?_; rotate_left; (· intro w9 hSw; (try dsimp only at hSw); go_simp; try with_reducible rfl); (try simp only [Act.put, List.setIfInBounds_toArray, List.set_cons_zero, List.set_cons_succ])
    refine WE_take 5 (v := ?_) rfl (by kernel_rfl) (fun _ _ _ h => h) (Or.inl ⟨by rfl, ?_⟩) (by assumption) ?_; rotate_left; (· intro w9 hSw; (try dsimp only at hSw); go_simp; try with_reducible rfl); (try simp only [Act.put, List.setIfInBounds_toArray, List.set_cons_zero, List.set_cons_succ])
    refine WE_take 6 (v := ?_) rfl (by kernel_rfl) (fun _ _ _ h => h) (Or.inl ⟨by rfl, ?_⟩) (by assumption) ?_; rotate_left; (· intro w9 hSw; (try dsimp only at hSw); go_simp; try with_reducible rfl); (try simp only [Act.put, List.setIfInBounds_toArray, List.set_cons_zero, List.set_cons_succ])
    refine WE_take 7 (v := ?_) rfl (by kernel_rfl) (fun _ _ _ h => h) (Or.inl ⟨by rfl, ?_⟩) (by assumption) ?_; rotate_left; (· intro w9 hSw; (try dsimp only at hSw); go_simp; try with_reducible rfl); (try simp only [Act.put, List.setIfInBounds_toArray, List.set_cons_zero, List.set_cons_succ])
    refine WE_step 8 rfl (by kernel_rfl) (fun K hK => ?_)
    go_simp
    refine hK.out _ _ ?_ (fun hHeld => ?_)
    · (first | (with_reducible assumption) | exact SXq.of (Kept.refl _ _).drew hgr hg4r hg4r xg xg4 xg4 | exact SXq.of (hHeld.1.alloc _) hgr hg4r hg4r xg xg4 xg4 | exact SXq.of HKA.out hgr hg4r hg4r xg xg4 xg4)
    clear hK K
    try simp only [Act.put, List.setIfInBounds_toArray, List.set_cons_zero, List.set_cons_succ]
    refine WE_step 9 rfl (by kernel_rfl) (fun K hK => ?_)
    (refine step_append_rd _ rfl _ _ 27 rfl V.heap.size 54 i0 (.agg #[.int .i64 0, .int .i64 0, .int .i64 0, .int .i64 0]) 4 32 Tryd.underlying27 hi hz0 hz1 hz2 rfl (by decide) (.slice A j c) j _ rfl (own_keptK (X := []) own.out (((Kept.refl [] wr).drew).alloc _) (by simp)) (some ⟨wr.heap.size, 0, none⟩) 1 1 [.int .i64 0, .int .i64 d, .int .i64 zk, .int .i64 zn] rfl (Rd.new4 _ _ _ _ _ _ _ rfl) (fun h => by cases h) (by intro u hu; simp only [List.mem_cons, List.not_mem_nil, or_false] at hu; rcases hu with rfl | rfl | rfl | rfl <;> rfl) (j + 1) rfl _ HAB.out.symm (by unfold maxLen; omega) (by omega) (by simp; omega) ?_; intro A9 c9 w4 hown4 hk4 hat4; have hkA : Kept (Value.slice A j c).ownBlock.toList wr w4 := (((Kept.refl _ wr).drew).alloc _).next hk4 (fun y hy => Or.inl hy); have ⟨LG4, CG4, FG4⟩ := hkA.blk xg bg.out; have HO4 := Lib.hid hown4; have HKA := Lib.hid hkA; clear hown4 hk4 hat4)
    refine hK.out _ _ ?_ (fun hHeld => ?_)
    · (first | (with_reducible assumption) | exact SXq.of (Kept.refl _ _).drew hgr hg4r hg4r xg xg4 xg4 | exact SXq.of (hHeld.1.alloc _) hgr hg4r hg4r xg xg4 xg4 | exact SXq.of HKA.out hgr hg4r hg4r xg xg4 xg4)
    clear hK K
    try simp only [Act.put, List.setIfInBounds_toArray, List.set_cons_zero, List.set_cons_succ]
    refine WE_take 10 (v := ?_) rfl (by kernel_rfl) (fun _ _ _ h => h) (Or.inl ⟨by rfl, ?_⟩) (by assumption) ?_; rotate_left; (· intro w9 hSw; (try dsimp only at hSw); go_simp; try with_reducible rfl); (try simp only [Act.put, List.setIfInBounds_toArray, List.set_cons_zero, List.set_cons_succ])
    refine WE_last rfl (by kernel_rfl) (fun K hK => ?_)
    go_simp
    refine hK.out _ _ ?_
    clear hK K
    go_wp2_with fail
    obtain rfl := HD.out
    have hkA' : Kept [g] V w4 := hkr.next HKA.out (fun y hy => Or.inr (HX.out y hy))
    refine ⟨⟨j + 1, A9, c9, by omega, by go_num, hkA'.set g 5 _ (.inl (by simp)), Lib.hid ((HKA.out.blk xg bg.out).set 5 _), Lib.hid (own_keptK (X := [g]) HO4.out ((Kept.refl [g] w4).set g 5 _ (.inl (by simp))) (fun y hy => ?_))⟩, by simp [intOf]; omega⟩
    have := own_ge HO4.out hy
    simp
    omega
  obtain rfl : j = Fn - 1 := by omega
  obtain ⟨nd, hnd⟩ : ∃ nd, (ge es k).b = nd := ⟨_, rfl⟩
  have HND := Lib.hid hnd
  clear hnd hlt
  have hgw : w.heap.size ≤ g := Nat.le_trans hkw5.size hg5g
  have own0 : Hid (wr.ownsRow V.heap.size 54 4 (.slice A (Fn - 1) c) (Fn - 1) (scells (sdA lf (Fn - 1) ++ sdB sd nd 0))) := Lib.hid (by
    have e : sdB sd nd 0 = [] := rfl
    rw [e, List.append_nil]
    exact own.out)
  go_wp2_with fail
  clear C0r F0r CGr FGr
  go_loopw [12] (fun s wq => ∃ (i m : Nat) (A : Option Addr) (c : Nat), i ≤ n4 ∧ s = .int .i64 i ∧ Kept [g] V wq ∧ Hid (Blk wq g [.slice (some ⟨bn, 0, none⟩) 4 4, .slice (some ⟨be, 0, none⟩) 1 1, .int .i64 0, .int .i64 Fn, .slice (some ⟨bf, 0, none⟩) 1 1, .slice A m c]) ∧ Hid (wq.ownsRow V.heap.size 54 4 (.slice A m c) m (scells (sdA lf (Fn - 1) ++ sdB sd nd i))) ∧ Hid ((sdA lf (Fn - 1) ++ sdB sd nd i).length = m)) (fun s _ => n4 - (intOf s).toNat)
  case atStart => exact ⟨0, Fn - 1, A, c, Nat.zero_le _, rfl, hkr, bg, own0, Lib.hid (by rw [List.length_append, sdA_len]; rfl)⟩
  case round =>
  clear own0 bg own xg xg4 HX hgr hg4r hsz hkr LGr L0r
  rename World => wq
  obtain ⟨i, m, A, c, hi4, rfl, hkq, bg, own, hml⟩ := hrel
  have hsz := hkq.size
  have hkwq : Kept [] w wq := kept_fresh hkwV hkq (by simpa using hgw)
  have ⟨L0q, C0q, F0q⟩ := hkq.blk (by simpa using hb0g) (hkWV.blk (by simp) B0)
  have ⟨LGq, CGq, FGq⟩ := bg.out
  have hm26 : m ≤ 26 := by
    have h1 := hml.out
    rw [List.length_append, sdA_len] at h1
    have h2 := sdB_len sd nd i
    omega
  by_cases hlt : i < n4
  case pos =>
    obtain ⟨b4, o4, rfl, hl4, hcs⟩ := HS.out.2 (by omega)
    obtain ⟨⟨sn, sf, sk, sv⟩, hs4⟩ : ∃ s, Sp.gs sd i = s := ⟨_, rfl⟩
    obtain ⟨s0, s1, s2, s3⟩ := hcs i hlt
    rw [hs4] at s0 s1 s2 s3
    replace s0 := (hkwq.cell b4 _ hl4 (by simp)).trans s0
    replace s1 := (hkwq.cell b4 _ hl4 (by simp)).trans s1
    replace s2 := (hkwq.cell b4 _ hl4 (by simp)).trans s2
    replace s3 := (hkwq.cell b4 _ hl4 (by simp)).trans s3
    obtain ⟨b2, o2, rfl, hl2, hce⟩ := HG.out.ed.cell2 hkwq.toBelow hk2n
    rw [HND.out] at hce
    have HS4 := Lib.hid hs4
    have hi1 : (i : Int) < (n4 : Int) := by omega
    have hk2' : (k : Int) < (n2 : Int) := by omega
    have hl4q : b4 < wq.heap.size := Nat.lt_of_lt_of_le hl4 hkwq.size
    have hl2q : b2 < wq.heap.size := Nat.lt_of_lt_of_le hl2 hkwq.size
    have hisd : i < sd.length := by rw [HS.out.1]; exact hlt
    clear hcs hs4
    by_cases hn : sn = nd
    case neg =>
      have hn' : (sn == nd) = false := by simpa using hn
      have HB : Hid (sdB sd nd (i + 1) = sdB sd nd i) := sdB_no hisd (by rw [HS4.out]; exact hn)
      clear hn
      go_upto_region 16 with fail
      go_quiet (fail)
      go_wp2_with fail
      exact ⟨⟨i + 1, m, A, c, by omega, by go_num, hkq.drewN _, Lib.hid (bg.out.drewN _), Lib.hid (by rw [HB.out]; exact own.out), Lib.hid (by rw [HB.out]; exact hml.out)⟩, by simp [intOf]; omega⟩
    have hn' : (sn == nd) = true := by simpa using hn
    have HB : Hid (sdB sd nd (i + 1) = sdB sd nd i ++ [⟨1, sf, sk, sv⟩]) := by
      show _ = _
      rw [sdB_yes hisd (by rw [HS4.out]; exact hn), HS4.out]
    have HAB : Hid (scells (sdA lf (Fn - 1) ++ sdB sd nd (i + 1)) = scells (sdA lf (Fn - 1) ++ sdB sd nd i) ++ [.int .i64 1, .int .i64 sf, .int .i64 sk, .int .i64 sv]) := by
      show _ = _
      rw [HB.out, ← List.append_assoc, scells_snoc]
    have HML : Hid ((sdA lf (Fn - 1) ++ sdB sd nd (i + 1)).length = m + 1) := by
      show _ = _
      rw [HB.out, ← List.append_assoc, List.length_append, hml.out]
      rfl
    clear hn
    go_upto_region 16 with fail
    go_quiet (fail)
    go_upto_region 17 with fail
    refine wp_named (fun X => Kept [] wq X) ((Kept.refl _ _).drewN _) ?_
    rintro X hkX
    have bgX := Lib.hid (hkX.blk (by simp) bg.out)
    have ownX := Lib.hid (own_keptK (X := []) own.out hkX (by simp))
    have ⟨LGX, CGX, FGX⟩ := bgX.out
    have ⟨L0X, C0X, F0X⟩ := hkX.blk (by simp) (hkq.blk (by simpa using hb0g) (hkWV.blk (by simp) B0))
    replace s1 := (hkX.cell b4 _ hl4q (by simp)).trans s1
    replace s2 := (hkX.cell b4 _ hl4q (by simp)).trans s2
    replace s3 := (hkX.cell b4 _ hl4q (by simp)).trans s3
    have hszX : wq.heap.size ≤ X.heap.size := hkX.size
    have HX : Hid (∀ y ∈ (Value.slice A m c).ownBlock.toList, V.heap.size ≤ y) := (fun y hy => own_ge ownX.out (by simpa using hy))
    have hl4V : b4 < V.heap.size := Nat.lt_of_lt_of_le hl4 hkwV.size
    have xg : g ∉ (Value.slice A m c).ownBlock.toList := fun hm => by have := HX.out g hm; omega
    have xb0 : b0 ∉ (Value.slice A m c).ownBlock.toList := fun hm => by have := HX.out b0 hm; omega
    have xb4 : b4 ∉ (Value.slice A m c).ownBlock.toList := fun hm => by have := HX.out b4 hm; omega
    have hgr : g < X.heap.size := by omega
    have hb0r : b0 < X.heap.size := by omega
    have hb4r : b4 < X.heap.size := by omega
    clear C0q F0q CGq FGq s0 hce hn'
    refine wp_region_E 18 (fun w' => SXq (Value.slice A m c).ownBlock.toList g b0 b4 X w') (by kernel_rfl) (by (first | (with_reducible assumption) | exact SXq.of (Kept.refl _ _).drew hgr hb0r hb4r xg xb0 xb4 | exact SXq.of (hHeld.1.alloc _) hgr hb0r hb4r xg xb0 xb4 | exact SXq.of HKA.out hgr hb0r hb4r xg xb0 xb4)) (fun hHeld => ?_)
    refine WE_take 0 (v := ?_) rfl (by kernel_rfl) (fun _ _ _ h => h) (Or.inl ⟨by rfl, ?_⟩) (by assumption) ?_; rotate_left; (· intro w9 hSw; (try dsimp only at hSw); go_simp; try with_reducible rfl); (try simp only [Act.put, List.setIfInBounds_toArray, List.set_cons_zero, List.set_cons_succ])
    refine WE_take 1 (v := ?_) rfl (by kernel_rfl) (fun _ _ _ h => h) (Or.inl ⟨by rfl, ?_⟩) (by assumption) ?_; rotate_left; (· intro w9 hSw; (try dsimp only at hSw); go_simp; try with_reducible rfl); (try simp only [Act.put, List.setIfInBounds_toArray, List.set_cons_zero, List.set_cons_succ])
    refine WE_take 2 (v := ?_) rfl (by kernel_rfl) (fun _ _ _ h => h) (Or.inl ⟨by rfl, ?_⟩) (by assumption) ?_; rotate_left; (· intro w9 hSw; (try dsimp only at hSw); go_simp; try with_reducible rfl); (try simp only [Act.put, List.setIfInBounds_toArray, List.set_cons_zero, List.set_cons_succ])
    refine WE_take 3 (v := ?_) rfl (by kernel_rfl) (fun _ _ _ h => h) (Or.inl ⟨by rfl, ?_⟩) (by assumption) ?_; rotate_left; (· intro w9 hSw; (try dsimp only at hSw); go_simp; try with_reducible rfl); (try simp only [Act.put, List.setIfInBounds_toArray, List.set_cons_zero, List.set_cons_succ])
    refine WE_take 4 (v := ?_) rfl (by kernel_rfl) (fun _ _ _ h => h) (Or.inl ⟨by rfl, ?_⟩) (by assumption) ?_; rotate_left; (· intro w9 hSw; (try dsimp only at hSw); go_simp; try with_reducible rfl); (try simp only [Act.put, List.setIfInBounds_toArray, List.set_cons_zero, List.set_cons_succ])
    refine WE_take 5 (v := ?_) rfl (by kernel_rfl) (fun _ _ _ h => h) (Or.inl ⟨by rfl, ?_⟩) (by assumption) ?_; rotate_left; (· intro w9 hSw; (try dsimp only at hSw); go_simp; try with_reducible rfl); (try simp only [Act.put, List.setIfInBounds_toArray, List.set_cons_zero, List.set_cons_succ])
    refine WE_take 6 (v := ?_) rfl (by kernel_rfl) (fun _ _ _ h => h) (Or.inl ⟨by rfl, ?_⟩) (by assumption) ?_; rotate_left; (· intro w9 hSw; (try dsimp only at hSw); go_simp; try with_reducible rfl); (try simp only [Act.put, List.setIfInBounds_toArray, List.set_cons_zero, List.set_cons_succ])
    refine WE_take 7 (v := ?_) rfl (by kernel_rfl) (fun _ _ _ h => h) (Or.inl ⟨by rfl, ?_⟩) (by assumption) ?_; rotate_left; (· intro w9 hSw; (try dsimp only at hSw); go_simp; try with_reducible rfl); (try simp only [Act.put, List.setIfInBounds_toArray, List.set_cons_zero, List.set_cons_succ])
    refine WE_take 8 (v := ?_) rfl (by kernel_rfl) (fun _ _ _ h => h) (Or.inl ⟨by rfl, ?_⟩) (by assumption) ?_; rotate_left; (· intro w9 hSw; (try dsimp only at hSw); go_simp; try with_reducible rfl); (try simp only [Act.put, List.setIfInBounds_toArray, List.set_cons_zero, List.set_cons_succ])
    refine WE_take 9 (v := ?_) rfl (by kernel_rfl) (fun _ _ _ h => h) (Or.inl ⟨by rfl, ?_⟩) (by assumption) ?_; rotate_left; (· intro w9 hSw; (try dsimp only at hSw); go_simp; try with_reducible rfl); (try simp only [Act.put, List.setIfInBounds_toArray, List.set_cons_zero, List.set_cons_succ])
    refine WE_take 10 (v := ?_) rfl (by kernel_rfl) (fun _ _ _ h => h) (Or.inl ⟨by rfl, ?_⟩) (by assumption) ?_; rotate_left; (· intro w9 hSw; (try dsimp only at hSw); go_simp; try with_reducible rfl); (try simp only [Act.put, List.setIfInBounds_toArray, List.set_cons_zero, List.set_cons_succ])
    refine WE_take 11 (v := ?_) rfl (by kernel_rfl) (fun _ _ _ h => h) (Or.inl ⟨by rfl, ?_⟩) (by assumption) ?_; rotate_left; (· intro w9 hSw; (try dsimp only at hSw); go_simp; try with_reducible rfl); (try simp only [Act.put, List.setIfInBounds_toArray, List.set_cons_zero, List.set_cons_succ])
    refine WE_take 12 (v := ?_) rfl (by kernel_rfl) (fun _ _ _ h => h) (Or.inl ⟨by rfl, ?_⟩) (by assumption) ?_; rotate_left; (· intro w9 hSw; (try dsimp only at hSw); go_simp; try with_reducible rfl); (try simp only [Act.put, List.setIfInBounds_toArray, List.set_cons_zero, List.set_cons_succ])
    refine WE_take 13 (v := ?_) rfl (by kernel_rfl) (fun _ _ _ h => h) (Or.inl ⟨by rfl, ?_⟩) (by assumption) ?_; rotate_left; (· intro w9 hSw; (try dsimp only at hSw); go_simp; try with_reducible rfl); (try simp only [Act.put, List.setIfInBounds_toArray, List.set_cons_zero, List.set_cons_succ])
    refine WE_take 14 (v := ?_) rfl (by kernel_rfl) (fun _ _ _ h => h) (Or.inl ⟨by rfl, ?_⟩) (by assumption) ?_; rotate_left; (· intro w9 hSw; (try dsimp only at hSw); go_simp; try with_reducible rfl); (try simp only [Act.put, List.setIfInBounds_toArray, List.set_cons_zero, List.set_cons_succ])
    refine WE_step 15 rfl (by kernel_rfl) (fun K hK => ?_)
    go_simp
    refine hK.out _ _ ?_ (fun hHeld => ?_)
    · (first | (with_reducible assumption) | exact SXq.of (Kept.refl _ _).drew hgr hb0r hb4r xg xb0 xb4 | exact SXq.of (hHeld.1.alloc _) hgr hb0r hb4r xg xb0 xb4 | exact SXq.of HKA.out hgr hb0r hb4r xg xb0 xb4)
    clear hK K
    try simp only [Act.put, List.setIfInBounds_toArray, List.set_cons_zero, List.set_cons_succ]
    refine WE_step 16 rfl (by kernel_rfl) (fun K hK => ?_)
    (refine step_append_rd _ rfl _ _ 27 rfl V.heap.size 54 i0 (.agg #[.int .i64 0, .int .i64 0, .int .i64 0, .int .i64 0]) 4 32 Tryd.underlying27 hi hz0 hz1 hz2 rfl (by decide) (.slice A m c) m _ rfl (own_keptK (X := []) ownX.out (((Kept.refl [] X).drew).alloc _) (by simp)) (some ⟨X.heap.size, 0, none⟩) 1 1 [.int .i64 1, .int .i64 sf, .int .i64 sk, .int .i64 sv] rfl (Rd.new4 _ _ _ _ _ _ _ rfl) (fun h => by cases h) (by intro u hu; simp only [List.mem_cons, List.not_mem_nil, or_false] at hu; rcases hu with rfl | rfl | rfl | rfl <;> rfl) (m + 1) rfl _ HAB.out.symm (by unfold maxLen; omega) (by omega) (by simp; omega) ?_; intro A9 c9 w4 hown4 hk4 hat4; have hkA : Kept (Value.slice A m c).ownBlock.toList X w4 := (((Kept.refl _ X).drew).alloc _).next hk4 (fun y hy => Or.inl hy); have ⟨LG4, CG4, FG4⟩ := hkA.blk xg bgX.out; have HO4 := Lib.hid hown4; have HKA := Lib.hid hkA; clear hown4 hk4 hat4)
    refine hK.out _ _ ?_ (fun hHeld => ?_)
    · (first | (with_reducible assumption) | exact SXq.of (Kept.refl _ _).drew hgr hb0r hb4r xg xb0 xb4 | exact SXq.of (hHeld.1.alloc _) hgr hb0r hb4r xg xb0 xb4 | exact SXq.of HKA.out hgr hb0r hb4r xg xb0 xb4)
    clear hK K
    try simp only [Act.put, List.setIfInBounds_toArray, List.set_cons_zero, List.set_cons_succ]
    refine WE_take 17 (v := ?_) rfl (by kernel_rfl) (fun _ _ _ h => h) (Or.inl ⟨by rfl, ?_⟩) (by assumption) ?_; rotate_left; (· intro w9 hSw; (try dsimp only at hSw); go_simp; try with_reducible rfl); (try simp only [Act.put, List.setIfInBounds_toArray, List.set_cons_zero, List.set_cons_succ])
    refine WE_last rfl (by kernel_rfl) (fun K hK => ?_)
    go_simp
    refine hK.out _ _ ?_
    clear hK K
    go_wp2_with fail
    have hkA' : Kept [g] V w4 := (hkq.next hkX (by simp)).next HKA.out (fun y hy => Or.inr (HX.out y hy))
    have hkF : Kept [g] V (w4.setCell ⟨g, 5, none⟩ (.slice A9 (m + 1) c9)) := hkA'.set g 5 _ (.inl (by simp))
    have OWF := Lib.hid (own_keptK (X := [g]) HO4.out ((Kept.refl [g] w4).set g 5 (.slice A9 (m + 1) c9) (.inl (by simp))) (fun y hy => by have := own_ge HO4.out hy; simp; omega))
    have BGF := Lib.hid ((HKA.out.blk xg bgX.out).set 5 (.slice A9 (m + 1) c9))
    first
      | exact ⟨⟨i + 1, m + 1, A9, c9, by omega, by go_num, hkF, BGF, OWF, HML⟩, by simp [intOf]; omega⟩
      | exact ⟨⟨i + 1, by omega, by go_num, hkF, m + 1, A9, c9, BGF, OWF, HML⟩, by simp [intOf]; omega⟩
      | exact ⟨⟨i + 1, by omega, by go_num, hkF, A9, c9, BGF, m + 1, OWF, HML⟩, by simp [intOf]; omega⟩
      | (refine ⟨⟨i + 1, by omega, by go_num, hkF, ?_⟩, by simp [intOf]; omega⟩; exact ⟨_, _, _, BGF, OWF, Lib.hid (by have h9 := HML.out; rw [List.length_append] at h9; exact h9)⟩)
  obtain rfl : i = n4 := by omega
  have hvs := vss_own own.out hml.out
  have HVS := Lib.hid hvs.1
  have hmc : m ≤ c := hvs.2
  have BNq := Lib.hid (hkq.blk (by simpa using HNE.out.1) BNV.out)
  have BEq := Lib.hid (hkq.blk (by simpa using HNE.out.2.1) BEV.out)
  have BFq := Lib.hid (hkq.blk (by simpa using HNE.out.2.2) BFV.out)
  have VMq := Lib.hid (VM.out.kept hkq (by have := HG5.out; simp; omega))
  have HSN : Hid (sd.length = i) := Lib.hid HS.out.1
  have HPE := Lib.hid (ide_pairs HIE.out)
  have HKL : Hid (k < ls.length) := Lib.hid (by rw [HF.out.1]; exact hk3n)
  have HLO : Hid (∀ x, Xf.ok (lf x)) := fun x => by rw [← HLF.out]; exact run_ok HO.out.sok _ x
  have HL0 : Hid (lf 0 = ⟨2, 0⟩) := by
    show _ = _
    rw [← HLF.out]
    exact run_zero (F := Fn) (fun j hj => (HO.out.sin j hj).1) HPE.out.1 (fun j hj => by have := HPI.out.2 j hj; have := HO.out.len; omega) (n5 - 1) (by rw [HPN.out]; omega)
  have HERQ : Hid (alErr nsQ esQ 0 Fn [Sp.gl ls k] (sdA lf (Fn - 1) ++ sdB sd nd i) [0] = 0) := by
    show _ = _
    rw [← HSN.out]
    exact steps_ok hFn1 (by omega) HLO.out (HPE.out.1 k HKL.out) HPE.out.2
  have HEQ : Hid (runJ Xf.rmeetV Xf.rapply esQ [Sp.gl ls k] (sdA lf (Fn - 1) ++ sdB sd nd i) 0 [0] 1 = runJ Xf.rmeetV Xf.rapply es ls sd mn path n5) := by
    show _ = _
    funext x
    rw [← HSN.out, steps_val HL0.out hFn1 (fun j hj => by have := ((HO.out.pin k HKL.out).2 j hj); omega)]
    obtain ⟨n, hn⟩ : ∃ n, n5 = n + 1 := ⟨n5 - 1, by omega⟩
    have hk' := HK.out
    have hlf' := HLF.out
    rw [hn] at hk' hlf' ⊢
    rw [Nat.add_sub_cancel] at hk' hlf'
    rw [runJ, hk', hlf', Int.toNat_natCast, HND.out]
  clear hvs own hml bg
  go_wp2_with fail
  have hkP := Lib.hid ((Kept.refl [] wq).alloc (.cells #[.int .i64 0] 3))
  refine (pAlong_any (some ⟨bn, 0, none⟩) (some ⟨be, 0, none⟩) (some ⟨bf, 0, none⟩) A (some ⟨wq.heap.size, 0, none⟩) 4 4 1 1 1 1 m c 1 1 0 Fn nsQ esQ [Sp.gl ls k] (sdA lf (Fn - 1) ++ sdB sd nd i) [0] _ (grQ (hkP.out.blk (by simp) BNq.out) (hkP.out.blk (by simp) BEq.out)) (flsQ (hkP.out.blk (by simp) BFq.out) (HX.out.later (keptTrans hkwq hkP.out).toBelow)) (HVS.out.later hkP.out.toBelow) (one_ints _ _ _ _ rfl) (by omega) hmc (HGV.out.later (keptTrans hkwq hkP.out).toBelow) 0 HERQ.out).mono ?_
  rintro e w6 ⟨⟨hn, -⟩ | ⟨-, g6, c6, rfl, hv6, hg6, hc6⟩, hb6⟩
  · exact absurd rfl hn
  rw [Int.toNat_natCast] at hv6
  rw [Int.toNat_natCast]
  have V6 : Hid (Vals w6 g6 Fn (runJ Xf.rmeetV Xf.rapply es ls sd mn path n5)) := Lib.hid (by rw [← HEQ.out]; exact hv6)
  have hkw6 : Kept [] w w6 := (keptTrans hkwq hkP.out).call hb6
  have VM6 := Lib.hid (VMq.out.kept (hkP.out.call hb6) (by simp))
  clear hv6 C0q F0q CGq FGq
  go_wp2_with fail
  refine (values_any (some ⟨g6, 0, none⟩) (some ⟨g5, 0, none⟩) Fn c6 c5' _ _ (fun _ => ⟨g6, rfl, V6.out⟩) (fun _ => ⟨g5, rfl, VM6.out⟩) (by omega)).mono ?_
  rintro e w7 ⟨rfl, hb7⟩
  have hkw7 : Kept [] w w7 := hkw6.call hb7
  go_wp2_with fail
  refine (knows_any _ (HGV.out.later hkw7.toBelow)).mono ?_
  rintro e w8 ⟨rfl, hb8⟩
  go_wp2_with fail
  go_ret
  exact ⟨rfl, (hkw7.call hb8).toBelow⟩
end Go.Proofs.YtmjebjjhfoncfaaDoor
