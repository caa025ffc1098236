/- Summaries that came in as arguments. -/
import Derived.Test.YtooejoajojanjaaGreatDoorXSf07
import Derived.Test.YtooejoajojanjaaGreatDoorXSf04
import Derived.Test.YtooejoajojanjaaGreatDoorRows
import Derived.Test.YtooejoajojanjaaGreatDoorXSf06
import Derived.Test.YtooejoajojanjaaGreatDoorXSf01
import Derived.Laws.Bits64b
namespace Go.Df
open Go.RowKit Go.ChangeShapes Go.WideShapes
theorem addr_add2 (a : Addr) (x y : Nat) : (a.add x).add y = a.add (x + y) := by
 by_cases hx : x = 0 <;> by_cases hy : y = 0 <;> simp [Addr.add, hx, hy, Nat.add_assoc]
section
variable {H : Type} {enc : TypeId × Value → H} {P : Program} {w : World} {base : Nat} {held : Bool}
/-- A slice of elements of k cells each that came in. -/
theorem open_rowsK {t e : TypeId} {k fuel : Nat} {v : Value} {x : DataW H × List MemPlace} (ht : P.underlying t = some (.slice e)) (hC : P.cellsOf e = k) (hk : 0 < k)
   (h : DataW.trod enc P w base (fun _ => true) held fuel t [v] = some x) :
   ∃ A n c, v = .slice A n c ∧ n ≤ c ∧ n ≤ 9223372036854775807 ∧ (0 < n → ∃ b o, A = some ⟨b, o, none⟩ ∧ b < w.heap.size ∧ ∀ i, i < n → ∃ cs' m y, cs'.length = k ∧ (∀ q, q < k → w.cell? ⟨b, o + i * k + q, none⟩ = cs'[q]?) ∧ DataW.trod enc P w base (fun _ => true) held m e cs' = some y) := by
 rcases Go.Deep.open_slice ht h with ⟨h0, _⟩ | ⟨a, len, cap, m, n, D, Pl, hcs, hbb, hl, hm, hmm, hx, hi⟩
 · injection h0 with h0
   exact ⟨none, 0, 0, h0, Nat.le_refl _, by omega, fun h => absurd h (by omega)⟩
 · injection hcs with hcs
   subst hcs
   have hread : ∀ i, i < len → ∃ cs' m y, cs'.length = k ∧ (∀ q, q < k → w.cell? (a.add (i * k + q)) = cs'[q]?) ∧ DataW.trod enc P w base (fun _ => true) held m e cs' = some y := by
     intro i hil
     obtain ⟨cs', hc, ht'⟩ := hi i (by rw [hmm]; simp; omega)
     rw [hC] at hc
     obtain ⟨h1, h2, h3⟩ := World.cells?_some hc
     refine ⟨cs', _, _, h2, fun q hq => ?_, ht'⟩
     have h4 := h3 q hq
     rw [addr_add2] at h4
     exact h4
   refine ⟨some a, len, cap, rfl, hl, by unfold maxLen at hm; omega, fun hp => ?_⟩
   obtain ⟨b, o, sp⟩ := a
   obtain ⟨cs0, m0, y0, hl0, h0, -⟩ := hread 0 hp
   have h0 := h0 0 hk
   rw [List.getElem?_eq_getElem (by omega)] at h0
   have hsp : sp = none := by
     cases sp with
     | none => rfl
     | some s =>
       exfalso
       simp only [World.cell?, Addr.add] at h0
       split at h0 <;> simp at h0
   subst hsp
   refine ⟨b, o, rfl, cell_lt (p := ⟨b, o, none⟩) (by have h9 := h0; rw [add_lit] at h9; simpa using h9), fun i hil => ?_⟩
   obtain ⟨cs', m1, y, h1, h2, h3⟩ := hread i hil
   refine ⟨cs', m1, y, h1, fun q hq => ?_, h3⟩
   have h4 := h2 q hq
   rw [add_lit, ← Nat.add_assoc] at h4
   exact h4
end
theorem take1 {cs : List Value} {i : Nat} {v : Value} (h : (cs.drop i).take 1 = [v]) : cs[i]? = some v := by
 have h1 := congrArg (·[0]?) h
 simpa using h1
namespace If
theorem gp_mk1 {n i : Nat} (h : i < n) (f : Nat → Pr) : gp ((List.range n).map f) i = f i := by simp [gp, h]
theorem gS_mk {n i : Nat} (h : i < n) (f : Nat → Su) : gS ((List.range n).map f) i = f i := by simp [gS, h]
end If
end Go.Df
namespace Go.Proofs.YtooejoajojanjaaGreatDoor
open Go.RowKit Go.ChangeShapes Go.WideShapes Go.Df Go.Df.If
theorem hci : Tryz.prog.cellsOf 3 = 1 := by kernel_rfl
theorem hcp : Tryz.prog.cellsOf 72 = 2 := by kernel_rfl
theorem hcq : Tryz.prog.cellsOf 28 = 1 := by kernel_rfl
theorem hcs : Tryz.prog.cellsOf 30 = 3 := by kernel_rfl
section
variable {H : Type} {enc : TypeId × Value → H} {w : World} {base : Nat} {held : Bool}
theorem open_prs {fuel : Nat} {v : Value} {x : DataW H × List MemPlace} (h : DataW.trod enc Tryz.prog w base (fun _ => true) held fuel 28 [v] = some x) : ∃ A n c l, v = .slice A n c ∧ n ≤ 9223372036854775807 ∧ Prs w A n l ∧ ∀ q ∈ l, (Lit.int .i64 q.i).wf = true := by
 obtain ⟨A, n, c, rfl, -, hn, hrow⟩ := open_rowsK Tryz.underlying28 hcp (by omega) h
 have hex : ∀ i, ∃ p : Pr, (Lit.int .i64 p.i).wf = true ∧ ∀ b o, A = some ⟨b, o, none⟩ → i < n → w.cell? ⟨b, o + i * 2, none⟩ = some (.int .i64 p.i) ∧ w.cell? ⟨b, o + i * 2 + 1, none⟩ = some (.int .i64 p.o) := by
   intro i
   by_cases hi : i < n
   · obtain ⟨b, o, rfl, hb, hc⟩ := hrow (by omega)
     obtain ⟨cs', m, y, -, hcell, htr⟩ := hc i hi
     obtain ⟨y0, y1, m1, -, -, h0, h1⟩ := Go.ChangeShapes.trod_struct2 Tryz.underlying72 htr
     obtain ⟨z0, e0, -, w0⟩ := DataW.trod_int Tryz.underlying3 h0
     obtain ⟨z1, e1, -, -⟩ := DataW.trod_int Tryz.underlying3 h1
     dsimp only at e0 e1
     rw [hci] at e0 e1
     refine ⟨⟨z0, z1⟩, w0, fun b' o' e' _ => ?_⟩
     injection e' with e'
     injection e' with e1' e2' _
     subst e1' e2'
     exact ⟨(hcell 0 (by omega)).trans (take1 e0), (hcell 1 (by omega)).trans (take1 e1)⟩
   · exact ⟨⟨0, 0⟩, by decide, fun _ _ _ h => absurd h hi⟩
 refine ⟨A, n, c, (List.range n).map (fun i => (hex i).choose), rfl, hn, ⟨by simp, fun h0 => ?_⟩, fun q hq => ?_⟩
 · obtain ⟨b, o, rfl, hb, -⟩ := hrow h0
   refine ⟨b, o, rfl, hb, fun i hi => ?_⟩
   rw [gp_mk1 hi]
   exact (hex i).choose_spec.2 b o rfl hi
 · obtain ⟨j, hj, rfl⟩ := List.mem_map.1 hq
   exact (hex j).choose_spec.1
set_option maxRecDepth 100000 in
/-- The parts of a summary. -/
theorem open_sumC {n : Nat} {cs' : List Value} {y : DataW H × List MemPlace} (h : DataW.trod enc Tryz.prog w base (fun _ => true) held n 30 cs' = some y) : ∃ f E ne ce T nt ct l1 l2, cs' = [.int .i64 f, .slice E ne ce, .slice T nt ct] ∧ Prs w E ne l1 ∧ Prs w T nt l2 ∧ (∀ q ∈ l1, (Lit.int .i64 q.i).wf = true) ∧ ∀ q ∈ l2, (Lit.int .i64 q.i).wf = true := by
 obtain ⟨y0, y1, y2, m, -, hl, h0, h1, h2⟩ := Go.Deep.trod_struct3 Tryz.underlying30 h
 rw [hcs] at hl
 match cs', hl with
 | [a, b, c], _ =>
 simp only [hci, hcq, List.drop_zero, List.drop_succ_cons, List.take_succ_cons, List.take_zero] at h0 h1 h2
 obtain ⟨f, e0, -, -⟩ := DataW.trod_int Tryz.underlying3 h0
 obtain ⟨E, ne, ce, l1, rfl, -, hp1, hw1⟩ := open_prs h1
 obtain ⟨T, nt, ct, l2, rfl, -, hp2, hw2⟩ := open_prs h2
 injection e0 with e0
 subst e0
 exact ⟨f, E, ne, ce, T, nt, ct, l1, l2, rfl, hp1, hp2, hw1, hw2⟩
theorem open_sums {fuel : Nat} {v : Value} {x : DataW H × List MemPlace} (h : DataW.trod enc Tryz.prog w base (fun _ => true) held fuel 22 [v] = some x) : ∃ A n c L, v = .slice A n c ∧ n ≤ 9223372036854775807 ∧ SmW w A n L := by
 obtain ⟨A, n, c, rfl, -, hn, hrow⟩ := open_rowsK Tryz.underlying22 hcs (by omega) h
 have hex : ∀ i, ∃ u : Su, ∀ b o, A = some ⟨b, o, none⟩ → i < n → ∃ E ne ce T nt ct, w.cell? ⟨b, o + i * 3, none⟩ = some (.int .i64 u.f) ∧ w.cell? ⟨b, o + i * 3 + 1, none⟩ = some (.slice E ne ce) ∧ w.cell? ⟨b, o + i * 3 + 2, none⟩ = some (.slice T nt ct) ∧ Prs w E ne u.x ∧ Prs w T nt u.y := by
   intro i
   by_cases hi : i < n
   · obtain ⟨b, o, rfl, hb, hc⟩ := hrow (by omega)
     obtain ⟨cs', m, y, -, hcell, htr⟩ := hc i hi
     obtain ⟨f, E, ne, ce, T, nt, ct, l1, l2, rfl, hp1, hp2, -, -⟩ := open_sumC htr
     refine ⟨⟨f, l1, l2⟩, fun b' o' e' _ => ?_⟩
     injection e' with e'
     injection e' with e1' e2' _
     subst e1' e2'
     exact ⟨E, ne, ce, T, nt, ct, hcell 0 (by omega), hcell 1 (by omega), hcell 2 (by omega), hp1, hp2⟩
   · exact ⟨⟨0, [], []⟩, fun _ _ _ h => absurd h hi⟩
 refine ⟨A, n, c, (List.range n).map (fun i => (hex i).choose), rfl, hn, ⟨by simp, fun h0 => ?_⟩⟩
 obtain ⟨b, o, rfl, hb, -⟩ := hrow h0
 refine ⟨b, o, rfl, hb, fun i hi => ?_⟩
 rw [gS_mk hi]
 exact (hex i).choose_spec b o rfl hi
end
end Go.Proofs.YtooejoajojanjaaGreatDoor
namespace Go.Proofs.YtooejoajojanjaaGreatDoor
open Go.RowKit Go.Df Go.Df.If
attribute [local go_sem ↓] Go.wp_at_zero Go.wp_at_succ
set_option maxRecDepth 100000 in
set_option maxHeartbeats 1000000 in
theorem fat1_any (n c b o b0 b1 j : Nat) (nd sn : Int) (w : World) (B0 : Blk w b0 [.slice (some ⟨b, o, none⟩) n c]) (B1 : Blk w b1 [.int .i64 nd])
   (hj : j < n) (h1 : w.cell? ⟨b, o + j * 2, none⟩ = some (.int .i64 sn)) :
   Calls Tryz.prog 190 #[.int .i64 j, .pointer (some ⟨b0, 0, none⟩), .pointer (some ⟨b1, 0, none⟩)] w fun e w' => e = .returned (.bool (decide (nd ≤ sn))) ∧ Below w.heap.size w w' := by
 have ⟨L0, C0, F0⟩ := B0
 have ⟨L1, C1, F1⟩ := B1
 have hj1 : (j : Int) < (n : Int) := by omega
 go_enter Tryz.func190, Tryz.ntmps190
 go_upto_region 1 with fail
 go_quiet (fail)
 go_wp2_with fail
 go_ret
 exact ⟨rfl, ((Kept.refl [] w).drewN _).toBelow⟩
set_option maxRecDepth 100000 in
set_option maxHeartbeats 4000000 in
theorem fsearch_any (b0 b1 n : Nat) (p : Nat → Bool) (w : World) (hsz : n < 4611686018427387904)
   (hf : ∀ (wr : World) (i : Nat), Kept [] w wr → i < n → Calls Tryz.prog 190 #[.int .i64 i, .pointer (some ⟨b0, 0, none⟩), .pointer (some ⟨b1, 0, none⟩)] wr fun e w' => e = .returned (.bool (p i)) ∧ Below wr.heap.size wr w')
   (hmono : ∀ a b, a ≤ b → b < n → p a = true → p b = true) :
   Calls Tryz.prog 189 #[.int .i64 n, .func (.func 190) #[] #[.pointer (some ⟨b0, 0, none⟩), .pointer (some ⟨b1, 0, none⟩)]] w fun e w' =>
     ∃ r : Nat, e = .returned (.int .i64 r) ∧ r ≤ n ∧ (∀ t, t < r → p t = false) ∧ (∀ t, r ≤ t → t < n → p t = true) ∧ Below w.heap.size w w' := by
 have HF := Lib.hid hf
 have HM := Lib.hid hmono
 clear hf hmono
 go_enter Tryz.func189, Tryz.ntmps189
 go_wp2_with fail
 go_loopw [5, 6] (fun s5 s6 wr => ∃ (lo hi : Nat), s5 = .int .i64 lo ∧ s6 = .int .i64 hi ∧ lo ≤ hi ∧ hi ≤ n ∧ Kept [] w wr ∧ Hid ((∀ t, t < lo → p t = false) ∧ (∀ t, hi ≤ t → t < n → p t = true))) (fun a b _ => (intOf b).toNat - (intOf a).toNat)
 case atStart => exact ⟨0, n, rfl, rfl, Nat.zero_le _, Nat.le_refl _, Kept.refl _ _, Lib.hid ⟨fun t ht => absurd ht (Nat.not_lt_zero _), fun t h1 h2 => by omega⟩⟩
 case round =>
   obtain ⟨lo, hi, rfl, rfl, hlh, hin, hkr, I⟩ := hrel
   by_cases hlt : lo < hi
   · have hc := HF.out wr ((lo + hi) / 2) hkr (by omega)
     rw [show (((lo + hi) / 2 : Nat) : Int) = ((lo : Int) + (hi : Int)) / 2 by omega] at hc
     obtain ⟨q, hq⟩ : ∃ q, p ((lo + hi) / 2) = q := ⟨_, rfl⟩
     rw [hq] at hc
     have HQ := Lib.hid hq
     clear hq
     cases q
     · go_wp2_with (go_at_call 190; refine hc.mono ?_; rintro e w5 ⟨rfl, hb5⟩)
       refine ⟨⟨(lo + hi) / 2 + 1, hi, by rw [show ((lo : Int) + (hi : Int)) / 2 + 1 = (((lo + hi) / 2 + 1 : Nat) : Int) by omega], rfl, by omega, hin, hkr.call hb5, Lib.hid ⟨fun t ht => ?_, I.out.2⟩⟩, by simp [intOf]; omega⟩
       cases h : p t with
       | false => rfl
       | true => have := HM.out t ((lo + hi) / 2) (by omega) (by omega) h; rw [HQ.out] at this; cases this
     · go_wp2_with (go_at_call 190; refine hc.mono ?_; rintro e w5 ⟨rfl, hb5⟩)
       exact ⟨⟨lo, (lo + hi) / 2, rfl, by rw [show ((lo : Int) + (hi : Int)) / 2 = (((lo + hi) / 2 : Nat) : Int) by omega], by omega, by omega, hkr.call hb5, Lib.hid ⟨I.out.1, fun t ht htn => HM.out ((lo + hi) / 2) t ht htn HQ.out⟩⟩, by simp [intOf]; omega⟩
   · obtain rfl : hi = lo := by omega
     go_wp2_with fail
     go_ret
     exact ⟨hi, rfl, hin, I.out.1, I.out.2, hkr.toBelow⟩
set_option maxRecDepth 100000 in
set_option maxHeartbeats 4000000 in
theorem from_any (A : Option Addr) (n c d : Nat) (l : List Pr) (w0 w : World) (hp : Prs w0 A n l) (hbw : Below w0.heap.size w0 w) (hn0 : 0 < n) (hn : n ≤ 8192) (hc : n ≤ c) (hsrt : ∀ i j, i ≤ j → j < l.length → (gp l i).i ≤ (gp l j).i) :
   Calls Tryz.prog 169 #[.slice A n c, .int .i64 d] w (GetPrs w0 w (froms l d)) := by
 obtain ⟨b, o, rfl, hl0, hc0⟩ := hp.2 hn0
 have HP := Lib.hid hp
 have HN := Lib.hid hp.1
 have HR := Lib.hid hsrt
 have HC : Hid (∀ i, i < n → w.cell? ⟨b, o + i * 2, none⟩ = some (.int .i64 (gp l i).i)) := fun i hi => (hbw.cell (p := ⟨b, _, none⟩) hl0).trans (hc0 i hi).1
 have hl : b < w.heap.size := Nat.lt_of_lt_of_le hl0 hbw.size
 clear hp hsrt hc0 hbw hl0
 go_enter Tryz.func169, Tryz.ntmps169
 go_upto_region 1 with fail
 refine wp_named (fun W => ∃ b0 b1, w.heap.size = b0 ∧ w.heap.size + 1 = b1 ∧ Blk W b0 [.slice (some ⟨b, o, none⟩) n c] ∧ Blk W b1 [.int .i64 d] ∧ Below w.heap.size w W) ⟨_, _, rfl, rfl, ?_, ?_, ?_⟩ ?_
 · exact (Blk.new _ _ _ _ (by first | rfl | simp)).alloc _
 · exact kbn
 · go_grown
 rintro W ⟨b0, b1, e0, e1, B0, B1, hB⟩
 rw [e1, e0]
 have G0 : w.heap.size ≤ b0 := by omega
 have n01 : b0 ≠ b1 := by omega
 have G1 : w.heap.size ≤ b1 := by omega
 have n10 : b1 ≠ b0 := by omega
 clear e0 e1
 have ⟨L0, C0, F0⟩ := B0
 have ⟨L1, C1, F1⟩ := B1
 have hkW : Kept [] w W := (Kept.refl _ _).call hB
 have HFF : Hid (∀ (wr : World) (i : Nat), Kept [] W wr → i < n → Calls Tryz.prog 190 #[.int .i64 i, .pointer (some ⟨b0, 0, none⟩), .pointer (some ⟨b1, 0, none⟩)] wr fun e w' => e = .returned (.bool ((fun i => decide ((d : Int) ≤ (gp l i).i)) i)) ∧ Below wr.heap.size wr w') := by
   intro wr i hk hi
   exact fat1_any n c b o b0 b1 i d _ wr (hk.blk (by simp) B0) (hk.blk (by simp) B1) hi (((keptTrans hkW hk).cell b _ hl (by simp)).trans (HC.out i hi))
 have HMM : Hid (∀ a b, a ≤ b → b < n → (fun i => decide ((d : Int) ≤ (gp l i).i)) a = true → (fun i => decide ((d : Int) ≤ (gp l i).i)) b = true) := fun a b h1 h2 h3 => by
   simp only [decide_eq_true_eq] at *
   have := HR.out a b h1 (by rw [HN.out]; exact h2)
   omega
 go_upto_region 2 with (go_at_call 189; refine (fsearch_any b0 b1 n _ _ (by omega) HFF.out HMM.out).mono ?_; rintro e w1 ⟨r, rfl, hr, hr1, hr2, hb1⟩)
 have hk1 : Kept [] W w1 := (Kept.refl _ _).call hb1
 have HR1 : Hid (∀ j, j < r → (gp l j).i ≠ d) := fun j hj => by have := hr1 j hj; simp at this; omega
 have HR2 : Hid (∀ j, r ≤ j → j < n → d ≤ (gp l j).i) := fun j h1 h2 => by have := hr2 j h1 h2; simpa using this
 clear hr1 hr2 HFF HMM C0 F0 C1 F1
 go_wp2_with fail
 go_loopw [6] (fun i wr => ∃ j : Nat, r ≤ j ∧ j ≤ n ∧ i = .int .i64 j ∧ Kept [] W wr ∧ Hid (∀ x, r ≤ x → x < j → (gp l x).i = d)) (fun i _ => n - (intOf i).toNat)
 case atStart => exact ⟨r, Nat.le_refl _, hr, rfl, hk1, Lib.hid (fun x h1 h2 => absurd h1 (by omega))⟩
 case round =>
   obtain ⟨j, hrj, hj, rfl, hkr, hall⟩ := hrel
   have ⟨L2, C2, F2⟩ := hkr.blk (by simp) B0
   have ⟨L3, C3, F3⟩ := hkr.blk (by simp) B1
   have hkwr : Kept [] w wr := keptTrans hkW hkr
   by_cases hlt : j < n
   · obtain ⟨sn, hsn⟩ : ∃ sn, (gp l j).i = sn := ⟨_, rfl⟩
     have r1 : wr.cell? ⟨b, o + j * 2, none⟩ = some (.int .i64 sn) := by rw [← hsn]; exact (hkwr.cell b _ hl (by simp)).trans (HC.out j hlt)
     have hlr : b < wr.heap.size := Nat.lt_of_lt_of_le hl hkwr.size
     have HSN := Lib.hid hsn
     clear hsn
     have hj1 : (j : Int) < (n : Int) := by omega
     by_cases hnd : sn = d
     · have e1 : (sn == (d : Int)) = true := by simpa using hnd
       have HA : Hid (∀ x, r ≤ x → x < j + 1 → (gp l x).i = d) := fun x h1 h2 => by
         rcases Nat.lt_or_ge x j with h9 | h9
         · exact hall.out x h1 h9
         · obtain rfl : x = j := by omega
           rw [HSN.out]; exact hnd
       clear hnd
       go_upto_region 3 with fail
       go_quiet (fail)
       go_wp2_with fail
       exact ⟨⟨j + 1, by omega, by omega, by go_num, hkr.drewN _, HA⟩, by simp [intOf]; omega⟩
     · have e1 : (sn == (d : Int)) = false := by simpa using hnd
       have HA : Hid (∀ x, j ≤ x → x < n → (gp l x).i ≠ d) := fun x h1 h2 => by
         have h3 := HR.out j x h1 (by rw [HN.out]; exact h2)
         have h4 := HR2.out j hrj hlt
         rw [HSN.out] at h3 h4
         omega
       clear hnd
       have hjc : j ≤ c := by omega
       have hrc : ¬ c = r := by omega
       go_upto_region 3 with fail
       go_quiet (fail)
       go_wp2_with fail
       go_ret
       have hf := froms_mid (l := l) (a := r) (m := j - r) (d := d) (by rw [HN.out]; omega) HR1.out (fun x h1 h2 => hall.out x h1 (by omega)) (fun x h1 h2 => HA.out x (by omega) (by rw [HN.out] at h2; exact h2))
       refine ⟨_, j - r, _, rfl, ?_, (hkwr.drewN _).toBelow⟩
       rw [hf]
       simpa [add_lit] using HP.out.mid (a := r) (m := j - r) (by omega) hn0
   · obtain rfl : j = n := by omega
     have hjc : j ≤ c := by omega
     have hf := froms_mid (l := l) (a := r) (m := j - r) (d := d) (by rw [HN.out]; omega) HR1.out (fun x h1 h2 => hall.out x h1 (by omega)) (fun x h1 h2 => absurd h2 (by rw [HN.out]; omega))
     have HFM := Lib.hid hf
     clear hf
     by_cases hrc : c = r
     · obtain rfl : j = r := by omega
       subst hrc
       go_upto_region 3 with fail
       go_quiet (fail)
       go_wp2_with fail
       go_ret
       refine ⟨some ⟨b, o, none⟩, 0, 0, by simp, ?_, (hkwr.drewN _).toBelow⟩
       rw [HFM.out]
       exact ⟨by simp, fun h => absurd h (by omega)⟩
     go_upto_region 3 with fail
     go_quiet (fail)
     go_wp2_with fail
     go_ret
     refine ⟨_, j - r, _, rfl, ?_, (hkwr.drewN _).toBelow⟩
     rw [HFM.out]
     simpa [add_lit] using HP.out.mid (a := r) (m := j - r) (by omega) hn0
end Go.Proofs.YtooejoajojanjaaGreatDoor
namespace Go.Df
open Go.RowKit
namespace If
open Sp
structure Wf (p : Pb) (s : St) : Prop where
 rng : ∀ n a d, s.h n a d = true → n < p.ns.length ∧ a < p.F.toNat ∧ d < p.F.toNat
 ph : ∀ n x, x ∈ s.pd n → s.h n x.1 x.2 = true
 nd : ∀ n, (s.pd n).Nodup
 qn : s.q.Nodup
 qp : ∀ n, n ∈ s.q ↔ s.pd n ≠ []
 ee : ∀ k b a, s.e k b a = true → a < p.F.toNat ∧ k < p.es.length ∧ (ge p.es k).k = 2
theorem Wf.add {p : Pb} {s : St} (h : Wf p s) {n a d : Nat} (hn : n < p.ns.length) (ha : a < p.F.toNat) (hd : d < p.F.toNat) : Wf p (s.add n a d) := by
 unfold St.add
 split
 · exact h
 · rename_i h0
   refine ⟨fun n' a' d' h' => ?_, fun n' x hx => ?_, fun n' => ?_, ?_, fun n' => ?_, h.ee⟩
   · simp at h'
     rcases h' with h' | ⟨rfl, rfl, rfl⟩
     · exact h.rng _ _ _ h'
     · exact ⟨hn, ha, hd⟩
   · dsimp only at hx
     split at hx
     · rename_i e
       subst e
       simp at hx
       rcases hx with hx | rfl
       · simp [h.ph _ _ hx]
       · simp
     · simp [h.ph _ _ hx]
   · dsimp only
     split
     · rename_i e
       subst e
       rw [List.nodup_append]
       refine ⟨h.nd _, by simp, ?_⟩
       intro x hx y hy
       simp at hy
       subst hy
       rintro rfl
       exact h0 (h.ph _ _ hx)
     · exact h.nd _
   · dsimp only
     split
     · rename_i e
       rw [List.nodup_append]
       refine ⟨h.qn, by simp, ?_⟩
       intro x hx y hy
       simp at hy
       subst hy
       rintro rfl
       exact (h.qp _).1 hx e
     · exact h.qn
   · dsimp only
     by_cases e : n' = n
     · subst e
       split
       · simp
       · rename_i e2
         simp [(h.qp n').2 e2]
     · rw [if_neg e]
       split
       · rw [List.mem_append, h.qp]
         simp [e]
       · exact h.qp _
theorem Wf.ent {p : Pb} {s : St} (h : Wf p s) {k b a : Nat} (ha : a < p.F.toNat) (hk : k < p.es.length) (hk2 : (ge p.es k).k = 2) : Wf p (s.ent k b a) := by
 refine ⟨h.rng, h.ph, h.nd, h.qn, h.qp, fun k' b' a' h' => ?_⟩
 simp [St.ent] at h'
 rcases h' with h' | ⟨rfl, rfl, rfl⟩
 · exact h.ee _ _ _ h'
 · exact ⟨ha, hk, hk2⟩
theorem spread_wf {p : Pb} (ho : Ok p) {k a d : Nat} (hk : k < p.es.length) (ha : a < p.F.toNat) {s : St} (h : Wf p s) : Wf p (spread p k a d s) := by
 refine fold_keep (Q := Wf p) _ s (fun q hq t ht => ?_) h
 have h1 := ho.pair (by rw [ho.len]; exact hk) (mem_froms.1 hq).1
 have h2 := ho.edge hk
 exact ht.add (by omega) ha (by omega)
theorem enter1_wf {p : Pb} (ho : Ok p) {k a b : Nat} (hk : k < p.es.length) (hk2 : (ge p.es k).k = 2) (ha : a < p.F.toNat) (hb : b < p.F.toNat) {s : St} (h : Wf p s) : Wf p (enter1 p k a b s) := by
 have h2 := ho.edge hk
 have h4 : Wf p (s.add (ge p.es k).b.toNat b b) := h.add (by omega) hb hb
 unfold enter1
 split
 · exact h4
 · refine fold_keep (Q := Wf p) _ _ (fun r hr t ht => ?_) (h4.ent ha hk hk2)
   unfold enterR
   split
   · exact fold_keep (Q := Wf p) _ t (fun f _ u hu => spread_wf ho (retL_mem.1 hr).1 ha hu) ht
   · exact ht
theorem step_wf {p : Pb} (ho : Ok p) {n a d : Nat} (hn : n < p.ns.length) (ha : a < p.F.toNat) {s : St} (h : Wf p s) : Wf p (step p n a d s) := by
 have f1 := ho.f1
 have h1 : Wf p (stepA p n a d s) := by
   unfold stepA
   split
   · refine fold_keep (Q := Wf p) _ s (fun x hx t ht => ?_) h
     have := ho.seed (seedL_mem.1 hx).1
     exact ht.add hn (by omega) (by omega)
   · exact h
 have h2 : Wf p ((outL p n).foldl (stepE p a d) (stepA p n a d s)) := by
   refine fold_keep (Q := Wf p) _ _ (fun k hk t ht => ?_) h1
   unfold stepE
   split
   · exact spread_wf ho (outL_mem.1 hk).1 ha ht
   · split
     · rename_i hk2
       refine fold_keep (Q := Wf p) _ t (fun q hq u hu => ?_) ht
       have h1 := ho.pair (by rw [ho.len]; exact (outL_mem.1 hk).1) (mem_froms.1 hq).1
       exact enter1_wf ho (outL_mem.1 hk).1 hk2 ha (by omega) hu
     · exact ht
 unfold step
 split
 · refine fold_keep (Q := Wf p) _ _ (fun k hk t ht => ?_) h2
   refine fold_keep (Q := Wf p) _ t (fun r hr u hu => ?_) ht
   unfold leaveR
   split
   · exact fold_keep (Q := Wf p) _ u (fun a' ha' v hv => spread_wf ho (retL_mem.1 hr).1 (elems_mem.1 ha').1 hv) hu
   · exact hu
 · exact h2
def trip (N F : Nat) : List (Nat × Nat × Nat) := (List.range N).flatMap fun n => (List.range F).flatMap fun a => (List.range F).map fun d => (n, a, d)
theorem mem_trip {N F n a d : Nat} : (n, a, d) ∈ trip N F ↔ n < N ∧ a < F ∧ d < F := by
 simp only [trip, List.mem_flatMap, List.mem_map, List.mem_range, Prod.mk.injEq]
 constructor
 · rintro ⟨_, h1, _, h2, _, h3, rfl, rfl, rfl⟩; exact ⟨h1, h2, h3⟩
 · rintro ⟨h1, h2, h3⟩; exact ⟨n, h1, a, h2, d, h3, rfl, rfl, rfl⟩
theorem countP_lt {α : Type} {P Q : α → Bool} (hPQ : ∀ x, P x = true → Q x = true) {y : α} (hQ : Q y = true) (hP : P y = false) : ∀ (l : List α), y ∈ l → l.countP P < l.countP Q
 | x :: l, hy => by
   have hm : l.countP P ≤ l.countP Q := List.countP_mono_left fun z _ h => hPQ z h
   rw [List.countP_cons, List.countP_cons]
   rcases List.mem_cons.1 hy with rfl | hy
   · rw [hQ, hP]; simp; omega
   · have := countP_lt hPQ hQ hP l hy
     by_cases h1 : P x = true
     · rw [h1, hPQ x h1]; simp; omega
     · simp at h1
       rw [h1]
       simp
       omega
def unh (p : Pb) (s : St) : Nat := (trip p.ns.length p.F.toNat).countP fun x => !s.h x.1 x.2.1 x.2.2
def mea (p : Pb) (s : St) : Nat := 2 * unh p s + s.q.length
theorem unh_add {p : Pb} {s : St} {n a d : Nat} (hn : n < p.ns.length) (ha : a < p.F.toNat) (hd : d < p.F.toNat) (h0 : s.h n a d = false) : unh p (s.add n a d) < unh p s := by
 unfold unh
 refine countP_lt (y := (n, a, d)) (fun x hx => ?_) (by simp [h0]) ?_ _ (mem_trip.2 ⟨hn, ha, hd⟩)
 · have h1 := (s.add_le n a d).h x.1 x.2.1 x.2.2
   cases hh : s.h x.1 x.2.1 x.2.2 with
   | false => rfl
   | true => rw [h1 hh] at hx; cases hx
 · simp [St.add_has]
theorem q_add (s : St) (n a d : Nat) : (s.add n a d).q.length ≤ s.q.length + 1 := by
 unfold St.add
 split
 · omega
 · dsimp only
   split
   · simp
   · omega
theorem mea_add {p : Pb} {s : St} {n a d : Nat} (hn : n < p.ns.length) (ha : a < p.F.toNat) (hd : d < p.F.toNat) : mea p (s.add n a d) ≤ mea p s := by
 cases h0 : s.h n a d with
 | true => unfold St.add; rw [if_pos h0]; exact Nat.le_refl _
 | false =>
   have h1 := unh_add hn ha hd h0
   have h2 := q_add s n a d
   unfold mea
   omega
theorem fold_mea {p : Pb} {α : Type} {f : St → α → St} (l : List α) (s : St) (h : ∀ x ∈ l, ∀ t, mea p (f t x) ≤ mea p t) : mea p (l.foldl f s) ≤ mea p s :=
 fold_keep (Q := fun t => mea p t ≤ mea p s) l s (fun x hx t ht => Nat.le_trans (h x hx t) ht) (Nat.le_refl _)
theorem spread_mea {p : Pb} (ho : Ok p) {k a d : Nat} (hk : k < p.es.length) (ha : a < p.F.toNat) (s : St) : mea p (spread p k a d s) ≤ mea p s := by
 refine fold_mea _ s (fun q hq t => ?_)
 have h1 := ho.pair (by rw [ho.len]; exact hk) (mem_froms.1 hq).1
 have h2 := ho.edge hk
 exact mea_add (by omega) ha (by omega)
def popS (s : St) (n : Nat) (r : List Nat) : St := ⟨s.h, s.e, fun n' => if n' = n then [] else s.pd n', r⟩
def batch (p : Pb) (n : Nat) (l : List (Nat × Nat)) (s : St) : St := l.foldl (fun s x => step p n x.1 x.2 s) s
def init (p : Pb) : St := (St.add ⟨fun _ _ _ => false, fun _ _ _ => false, fun _ => [], []⟩ p.mn.toNat 0 0)
structure Inv (p : Pb) (n : Nat) (rest : List (Nat × Nat)) (s : St) : Prop where
 wf : Wf p s
 snd : Snd p s
 cp : Cp p s (Dn s n rest)
 main : s.h p.mn.toNat 0 0 = true
 rs : ∀ x ∈ rest, s.h n x.1 x.2 = true
theorem Wf.pop {p : Pb} {s : St} (h : Wf p s) {n : Nat} {r : List Nat} (hq : s.q = n :: r) : Wf p (popS s n r) := by
 have hn := h.qn
 rw [hq, List.nodup_cons] at hn
 refine ⟨h.rng, fun n' x hx => ?_, fun n' => ?_, hn.2, fun n' => ?_, h.ee⟩
 · dsimp only [popS] at hx
   split at hx
   · cases hx
   · exact h.ph _ _ hx
 · dsimp only [popS]
   split
   · exact List.nodup_nil
   · exact h.nd _
 · dsimp only [popS]
   have h1 := h.qp n'
   rw [hq, List.mem_cons] at h1
   by_cases e : n' = n
   · subst e
     simp [hn.1]
   · rw [if_neg e, ← h1]
     simp [e]
theorem Inv.pop {p : Pb} {s : St} {n0 : Nat} (h : Inv p n0 [] s) {n : Nat} {r : List Nat} (hq : s.q = n :: r) : Inv p n (s.pd n) (popS s n r) := by
 refine ⟨h.wf.pop hq, ⟨h.snd.h, h.snd.e⟩, ?_, h.main, fun x hx => h.wf.ph _ _ hx⟩
 have hD : ∀ x y z, Dn (popS s n r) n (s.pd n) x y z → Dn s n0 [] x y z := fun x y z hd => by
   refine ⟨hd.1, fun hm => ?_, fun hm => by cases hm.2⟩
   by_cases e : x = n
   · subst e; exact hd.2.2 ⟨rfl, hm⟩
   · exact hd.2.1 (by dsimp only [popS]; rw [if_neg e]; exact hm)
 exact ⟨fun m hm => h.cp.seed m (hD _ _ _ hm), fun m b c hm => h.cp.flow m b c (hD _ _ _ hm), fun m b c hm => h.cp.call m b c (hD _ _ _ hm), fun k b a hk r' r1 r2 r3 r4 d hd => h.cp.ret k b a hk r' r1 r2 r3 r4 d (hD _ _ _ hd)⟩
theorem Inv.step {p : Pb} (ho : Ok p) {s : St} {n a d : Nat} {rest : List (Nat × Nat)} (h : Inv p n ((a, d) :: rest) s) : Inv p n rest (step p n a d s) := by
 have hh := h.rs (a, d) (by simp)
 have hr := h.wf.rng _ _ _ hh
 have hp := h.snd.h _ _ _ hh
 have hl := step_le p n a d s
 have f1 := ho.f1
 refine ⟨step_wf ho hr.1 hr.2.1 h.wf, step_snd ho hp h.snd, ?_, hl.h _ _ _ h.main, fun x hx => hl.h _ _ _ (h.rs x (by simp [hx]))⟩
 refine step_cp ho hr.1 (by omega) (by omega) (D := Dn s n ((a, d) :: rest)) (fun n a d hd => ⟨hd.1, (h.wf.rng _ _ _ hd.1).2.2⟩) h.wf.ee h.cp _ ?_
 intro x y z hd
 have h1 : s.h x y z = true := by
   rcases hl.new _ _ _ hd.1 with h1 | h1
   · exact h1
   · exact absurd h1 hd.2.1
 by_cases e : x = n ∧ y = a ∧ z = d
 · exact .inr e
 · refine .inl ⟨h1, fun hm => hd.2.1 (hl.pd _ _ hm), fun hm => ?_⟩
   rcases List.mem_cons.1 hm.2 with h2 | h2
   · injection h2 with h3 h4
     exact e ⟨hm.1, h3, h4⟩
   · exact hd.2.2 ⟨hm.1, h2⟩
theorem Inv.rest {p : Pb} {s : St} {n : Nat} (h : Inv p n [] s) (m : Nat) : Inv p m [] s := by
 have hD : ∀ x y z, Dn s m [] x y z → Dn s n [] x y z := fun x y z hd => ⟨hd.1, hd.2.1, fun hm => by cases hm.2⟩
 exact ⟨h.wf, h.snd, ⟨fun m hm => h.cp.seed m (hD _ _ _ hm), fun m b c hm => h.cp.flow m b c (hD _ _ _ hm), fun m b c hm => h.cp.call m b c (hD _ _ _ hm), fun k b a hk r' r1 r2 r3 r4 d hd => h.cp.ret k b a hk r' r1 r2 r3 r4 d (hD _ _ _ hd)⟩, h.main, fun x hx => by cases hx⟩
theorem mea_pop {p : Pb} {s : St} {n : Nat} {r : List Nat} (hq : s.q = n :: r) : mea p (popS s n r) + 1 = mea p s := by
 unfold mea
 rw [hq]
 show 2 * unh p s + r.length + 1 = _
 rw [List.length_cons]
 omega
theorem Inv.done {p : Pb} (ho : Ok p) {s : St} {n : Nat} (h : Inv p n [] s) (hq : s.q = []) (a m d : Nat) : s.h m a d = true ↔ PE p a m d := by
 have hpd : ∀ n, s.pd n = [] := fun n => Decidable.byContradiction fun hh => by
   have := (h.wf.qp n).2 hh
   rw [hq] at this
   cases this
 have hD : ∀ x y z, s.h x y z = true → Dn s n [] x y z := fun x y z hh => ⟨hh, by rw [hpd]; simp, fun hm => by cases hm.2⟩
 refine ⟨h.snd.h _ _ _, ?_⟩
 refine Clo.all (T := fun a n d => s.h n a d = true) ⟨h.main, ?_, ?_, ?_, ?_⟩
 · intro x hx ht
   have := ho.seed hx
   exact h.cp.seed _ (hD _ _ _ ht) x hx (by omega)
 · intro k hk hk2 q hq' b ht
   have h1 := ho.pair (by rw [ho.len]; exact hk) hq'
   have h2 := ho.edge hk
   exact h.cp.flow _ _ _ (hD _ _ _ ht) k hk hk2 (by omega) q hq' (by omega)
 · intro k hk hk2 q hq' b ht
   have h1 := ho.pair (by rw [ho.len]; exact hk) hq'
   have h2 := ho.edge hk
   exact (h.cp.call _ _ _ (hD _ _ _ ht) k hk hk2 (by omega) q hq' (by omega)).1
 · intro c hc hc2 q hq' r hr hr2 t ht' e1 e2 b hb hb2
   have h1 := ho.pair (by rw [ho.len]; exact hc) hq'
   have h2 := ho.edge hc
   have h3 := ho.pair (by rw [ho.len]; exact hr) ht'
   have h4 := ho.edge hr
   have h5 := (h.cp.call _ _ _ (hD _ _ _ hb) c hc hc2 (by omega) q hq' (by omega)).2
   exact h.cp.ret _ _ _ h5 r hr hr2 e1.symm ((ho.nd.start_iff (by omega) (by omega) (ho.call hc hc2).1).2 e2) _ (hD _ _ _ hb2) t ht' (by omega)
end If
end Go.Df
namespace Go.Proofs.YtooejoajojanjaaGreatDoor.Wl
open Go.Df
def allowed (n : Nat) (x : Int) : Bool := if 0 < n then decide (0 ≤ x) && decide (x < n) else decide (0 ≤ x) && decide (x < 65536)
def before (r : List Int) (x y : Int) : Bool := if gi r x.toNat = gi r y.toNat then decide (x < y) else decide (gi r x.toNat < gi r y.toNat)
def index (l : List Int) (x : Int) : Int := if x ∈ l then (l.idxOf x : Int) else -1
theorem index_hit {l : List Int} {x : Int} {k : Nat} (h : ∀ j, j < k → gi l j ≠ x) (hk : k < l.length) (e : gi l k = x) : index l x = k := by
 rw [gi_lt hk] at e
 have hm : x ∈ l := e ▸ List.getElem_mem hk
 have h1 : l.idxOf x = k := by
   have hlt : l.idxOf x < l.length := List.idxOf_lt_length_of_mem hm
   have h2 : l[l.idxOf x] = x := List.getElem_idxOf hlt
   rcases Nat.lt_trichotomy (l.idxOf x) k with h3 | h3 | h3
   · exact absurd ((gi_lt hlt).trans h2) (h _ h3)
   · exact h3
   · have := List.not_of_lt_findIdx (p := (· == x)) (xs := l) (i := k) h3
     simp [e] at this
 simp [index, hm, h1]
theorem index_miss {l : List Int} {x : Int} (h : ∀ j, j < l.length → gi l j ≠ x) : index l x = -1 := by
 have hm : x ∉ l := by
   intro hm
   obtain ⟨j, hj, e⟩ := List.getElem_of_mem hm
   exact h j hj ((gi_lt hj).trans e)
 simp [index, hm]
theorem index_nonneg (l : List Int) (x : Int) : (0 ≤ index l x) ↔ x ∈ l := by
 unfold index; split <;> simp_all
def wo (l : List Int) (x : Int) (k : Nat) : List Int := (l.take k).filter (fun y => y != x)
theorem take_snoc {l : List Int} {k : Nat} (hk : k < l.length) : l.take (k + 1) = l.take k ++ [gi l k] := by
 rw [List.take_succ_eq_append_getElem hk, gi_lt hk]
def without (l : List Int) (x : Int) : List Int := l.filter (fun y => y != x)
def err (r l : List Int) (k : Nat) : Int :=
 if allowed r.length (gi l k) = false then 4 else if gi l k ∈ l.take k then 7
 else if 0 < r.length ∧ 0 < k ∧ before r (gi l k) (gi l (k - 1)) = true then 13 else 0
def errs (r l : List Int) : Nat → Nat → Int
 | _, 0 => 0
 | k, n + 1 => if err r l k = 0 then errs r l (k + 1) n else err r l k
def chk (r l : List Int) : Int := if 8192 < r.length ∨ 8192 < l.length then 3 else errs r l 0 l.length
theorem errs_hit {r l : List Int} (n : Nat) : ∀ (k j : Nat), (∀ i, k ≤ i → i < j → err r l i = 0) → k ≤ j → j < k + n → err r l j ≠ 0 → errs r l k n = err r l j := by
 induction n with
 | zero => intro k j _ h1 h2; omega
 | succ n ih =>
   intro k j h h1 h2 h3
   rw [errs]
   rcases Nat.lt_or_ge k j with h4 | h4
   · rw [if_pos (h k (Nat.le_refl _) h4)]
     exact ih (k + 1) j (fun i hi hj => h i (by omega) hj) (by omega) (by omega) h3
   · obtain rfl : k = j := by omega
     rw [if_neg h3]
theorem errs_ok {r l : List Int} (n : Nat) : ∀ k, (∀ i, k ≤ i → i < k + n → err r l i = 0) → errs r l k n = 0 := by
 induction n with
 | zero => intro k _; rfl
 | succ n ih =>
   intro k h
   rw [errs, if_pos (h k (Nat.le_refl _) (by omega))]
   exact ih (k + 1) (fun i hi hj => h i (by omega) (by omega))
theorem chk_hit {r l : List Int} {k : Nat} {e : Int} (hr : r.length ≤ 8192) (hl : l.length ≤ 8192) (h : ∀ j, j < k → err r l j = 0) (hk : k < l.length) (he : err r l k = e) (h0 : e ≠ 0) : chk r l = e := by
 subst he
 rw [chk, if_neg (by omega)]
 exact errs_hit _ 0 k (fun i _ hi => h i hi) (Nat.zero_le _) (by omega) h0
theorem chk_ok {r l : List Int} (hr : r.length ≤ 8192) (hl : l.length ≤ 8192) (h : ∀ j, j < l.length → err r l j = 0) : chk r l = 0 := by
 rw [chk, if_neg (by omega)]
 exact errs_ok _ 0 (fun i _ hi => h i (by omega))
theorem allowed_lt {n : Nat} {x : Int} (h : allowed n x = true) (hn : n ≤ 8192) : 0 ≤ x ∧ x < 65536 ∧ (0 < n → x < n) := by
 unfold allowed at h; split at h <;> simp at h <;> omega
def Bits (f : Nat → Nat) (S : List Int) : Prop := (∀ i, f i < 18446744073709551616) ∧ ∀ x : Nat, x < 65536 → ((f (x / 64)).testBit (x % 64) = true ↔ (x : Int) ∈ S)
theorem bits_zero : Bits (fun _ => 0) [] := ⟨fun _ => by simp, fun x _ => by simp⟩
theorem bits_set {f : Nat → Nat} {S : List Int} (h : Bits f S) (x : Nat) : Bits (fun i => if i = x / 64 then f i ||| 2 ^ (x % 64) else f i) (S ++ [(x : Int)]) := by
 refine ⟨fun i => ?_, fun y hy => ?_⟩
 · dsimp only
   split
   · have h1 : 2 ^ (x % 64) < 2 ^ 64 := Nat.pow_lt_pow_right (by omega) (Nat.mod_lt _ (by omega))
     have h2 := h.1 i
     exact Nat.or_lt_two_pow (n := 64) (by omega) h1
   · exact h.1 i
 · dsimp only
   have h1 := h.2 y hy
   by_cases e : y / 64 = x / 64
   · rw [if_pos e, Nat.testBit_or, Bool.or_eq_true, h1, Nat.testBit_two_pow, List.mem_append]
     simp only [decide_eq_true_eq, List.mem_singleton]
     constructor
     · rintro (h2 | h2)
       · exact .inl h2
       · exact .inr (by omega)
     · rintro (h2 | h2)
       · exact .inl h2
       · exact .inr (by omega)
   · rw [if_neg e, h1, List.mem_append]
     simp only [List.mem_singleton]
     constructor
     · exact fun h2 => .inl h2
     · rintro (h2 | h2)
       · exact h2
       · exact absurd (by omega : y / 64 = x / 64) e
end Go.Proofs.YtooejoajojanjaaGreatDoor.Wl
namespace Go.Proofs.YtooejoajojanjaaGreatDoor
open Go.RowKit Go.Df
set_option maxHeartbeats 400000 in
theorem allowed_any (A1 A2 : Option Addr) (n1 c1 n2 c2 : Nat) (x : Int) (w : World) :
   Calls Tryz.prog 130 #[.agg #[.slice A1 n1 c1, .slice A2 n2 c2], .int .i64 x] w fun e w' => e = .returned (.bool (Wl.allowed n1 x)) ∧ Below w.heap.size w w' := by
 go_enter Tryz.func130, Tryz.ntmps130
 go_wp2
 all_goals (go_ret; refine ⟨ret_bool ?_, by go_grown⟩; simp_all [Wl.allowed] <;> omega)
set_option maxHeartbeats 400000 in
theorem before_q (A : Option Addr) (n c : Nat) (r : List Int) (x y : Int) (w : World) (hr : Ints w A n r) (x0 : 0 ≤ x) (xn : x < n) (y0 : 0 ≤ y) (yn : y < n) :
   Calls Tryz.prog 132 #[.slice A n c, .int .i64 x, .int .i64 y] w fun e w' => e = .returned (.bool (Wl.before r x y)) ∧ ∃ q, w' = w.drewN q := by
 obtain ⟨k, rfl⟩ := Int.eq_ofNat_of_zero_le x0
 obtain ⟨m, rfl⟩ := Int.eq_ofNat_of_zero_le y0
 obtain ⟨b, o, rfl, hl, hc⟩ := hr.at_ (by omega)
 have hx := hc k (by omega)
 have hy := hc m (by omega)
 clear hc hr
 by_cases e : gi r k = gi r m
 · have e' : (gi r k != gi r m) = false := by simp [e]
   have E := Lib.hid e
   clear e
   go_enter Tryz.func132, Tryz.ntmps132
   go_wp2
   go_quiet (fail)
   go_wp2
   go_ret
   exact ⟨ret_bool (by simp [Wl.before, E.out]), ⟨_, rfl⟩⟩
 · have e' : (gi r k != gi r m) = true := by simp [e]
   go_enter Tryz.func132, Tryz.ntmps132
   go_wp2
   go_quiet (fail)
   go_wp2
   go_quiet (fail)
   go_wp2
   go_ret
   exact ⟨ret_bool (by simp [Wl.before, e]), by first | exact ⟨_, rfl⟩ | exact ⟨_, World.drewN_drewN _ _ _⟩⟩
set_option maxHeartbeats 400000 in
theorem index_any (A : Option Addr) (n c : Nat) (l : List Int) (x : Int) (w : World) (hr : Ints w A n l) (hn : n ≤ 9223372036854775807) :
   Calls Tryz.prog 166 #[.slice A n c, .int .i64 x] w fun e w' => e = .returned (.int .i64 (Wl.index l x)) ∧ w = w' := by
 rcases Nat.eq_zero_or_pos n with rfl | hp
 · have h0 : l = [] := List.eq_nil_of_length_eq_zero hr.1
   have H := Lib.hid h0
   clear h0 hr
   go_enter Tryz.func166, Tryz.ntmps166
   go_wp2
   refine wp_loop_rounds 1 ?_
   rw [rounds_succ]
   go_wp2
   go_ret
   exact ⟨ret_int (by rw [H.out]; rfl), rfl⟩
 · obtain ⟨b, o, rfl, hl, hc⟩ := hr.at_ hp
   have HL := Lib.hid hr.1
   have HC := Lib.hid hc
   clear hc hr
   go_enter Tryz.func166, Tryz.ntmps166
   go_wp2
   go_loop [8] (fun i => ∃ k : Nat, k ≤ n ∧ i = .int .i64 k ∧ Hid (∀ j, j < k → gi l j ≠ x)) (fun i => n - (intOf i).toNat)
   case atStart => exact ⟨0, Nat.zero_le _, rfl, Lib.hid (fun j hj => absurd hj (by omega))⟩
   case round =>
     obtain ⟨k, hk, rfl, hj⟩ := hrel
     by_cases hlt : k < n
     · have hcell := HC.out k hlt
       go_wp2
       · go_ret
         refine ⟨ret_int (Wl.index_hit hj.out (by rw [HL.out]; exact hlt) ?_).symm, rfl⟩
         simp_all
       · go_round
         case rel =>
           refine ⟨k + 1, by omega, by go_num, Lib.hid (fun j hj1 => ?_)⟩
           rcases Nat.lt_or_ge j k with h2 | h2
           · exact hj.out j h2
           · obtain rfl : j = k := by omega
             intro e
             simp_all
         case measure => simp [intOf]; omega
     · go_wp2
       go_ret
       refine ⟨ret_int (Wl.index_miss (fun j hj1 => hj.out j (by rw [HL.out] at hj1; omega))).symm, rfl⟩
set_option maxHeartbeats 400000 in
theorem contains_any (A : Option Addr) (n c : Nat) (l : List Int) (x : Int) (w : World) (hr : Ints w A n l) (hn : n ≤ 9223372036854775807) :
   Calls Tryz.prog 131 #[.slice A n c, .int .i64 x] w fun e w' => e = .returned (.bool (decide (x ∈ l))) ∧ w = w' := by
 have H := Lib.hid hr
 clear hr
 go_enter Tryz.func131, Tryz.ntmps131
 go_wp2_with fail
 refine (index_any _ _ _ l _ _ H.out hn).mono ?_
 rintro e w1 ⟨rfl, rfl⟩
 go_wp2_with fail
 go_ret
 exact ⟨ret_bool (by rw [decide_eq_decide]; exact Wl.index_nonneg l x), rfl⟩
set_option maxHeartbeats 1000000 in
theorem clone_any (A : Option Addr) (n c : Nat) (l : List Int) (w : World) (hr : Ints w A n l) (hn : n ≤ 1000000) (hA : A = none → n = 0) :
   Calls Tryz.prog 127 #[.slice A n c] w fun e w' => ∃ v, e = .returned v ∧ w'.ownsRow w.heap.size 3 1 v n (l.map (Value.int .i64)) ∧ Below w.heap.size w w' := by
 obtain ⟨i0, hi, hz0, hz1, hz2⟩ := info_parts int_info
 cases A with
 | none =>
   obtain rfl := hA rfl
   have h0 : l = [] := List.eq_nil_of_length_eq_zero hr.1
   subst h0
   clear hr hA
   have hq := fun w => Lib.run_eql_slice_nil (P := Tryz.prog) w 31 3 none 0 c 0 0 Tryz.underlying31
   go_enter Tryz.func127, Tryz.ntmps127
   go_wp2
   go_ret
   exact ⟨_, rfl, ⟨by simp, .inl ⟨rfl, rfl⟩⟩, Below.refl _ _⟩
 | some a =>
   have hq := fun w => Lib.run_eql_slice_nil (P := Tryz.prog) w 31 3 (some a) n c 0 0 Tryz.underlying31
   have HR := Lib.hid hr
   have HL := Lib.hid hr.1
   clear hr hA
   go_enter Tryz.func127, Tryz.ntmps127
   go_wp2_with (at_builtin; refine wpList_append_own _ rfl _ _ 31 rfl w.heap.size 3 i0 (.int .i64 0) 1 8 Tryz.underlying31 hi hz0 hz1 hz2 rfl (by decide) _ 0 [] rfl ?c0 a n c (l.map (Value.int .i64)) rfl ?cl ?c1 ?c2 ?c3 ?c4 ?c5 ?_)
   case c0 =>
     refine ⟨rfl, .inr ⟨w.heap.size, 0, #[], rfl, Nat.le_refl _, heap_alloc_new w _, Nat.le_refl _, Nat.zero_le _, rfl, rfl⟩⟩
   case cl => simp [HL.out]
   case c1 => exact (HR.out.later ((Below.refl _ _).alloc (Nat.le_refl _) _)).news
   case c2 => exact ints_one l
   case c3 => unfold maxLen; omega
   case c4 => omega
   case c5 => simp
   intro v' w1 hown1 hgrow _
   have hB1 : Below w.heap.size w w1 := ((Below.refl _ _).alloc (Nat.le_refl _) _).grown hgrow (by simp) (fun g hg => by simp [Value.ownBlock] at hg; omega)
   clear hgrow
   go_wp2
   go_ret
   exact ⟨_, rfl, hown1, hB1⟩
def zs49 : Array Value := (List.replicate 1024 (Value.int .u64 0)).toArray
theorem zero49 (w : World) : (zeroValue 250).run Tryz.prog w = .ok (.agg zs49) w := by kernel_rfl
def Wds (w : World) (g : Nat) (f : Nat → Nat) : Prop := g < w.heap.size ∧ (∀ i, i < 1024 → w.cell? ⟨g, i, none⟩ = some (.int .u64 (f i))) ∧ ∀ i, w.frozen? ⟨g, i, none⟩ = false
theorem Wds.new (w : World) : Wds (w.alloc (.cells zs49 250)) w.heap.size (fun _ => 0) := by
 refine ⟨by simp, fun i hi => ?_, fun i => World.frozen?_alloc_new w zs49 250 i⟩
 rw [World.cell?_alloc_new]
 unfold zs49
 rw [List.getElem?_toArray, List.getElem?_replicate, if_pos hi]; rfl
theorem Wds.later {w w1 : World} {g : Nat} {f : Nat → Nat} (h : Wds w g f) (hb : Below w.heap.size w w1) : Wds w1 g f :=
 ⟨Nat.lt_of_lt_of_le h.1 hb.size, fun i hi => (hb.cell (p := ⟨g, i, none⟩) h.1).trans (h.2.1 i hi), fun i => (hb.frozen (p := ⟨g, i, none⟩) h.1).trans (h.2.2 i)⟩
theorem Wds.set {w : World} {g : Nat} {f : Nat → Nat} (h : Wds w g f) (j v : Nat) : Wds (w.setCell ⟨g, j, none⟩ (.int .u64 v)) g (fun i => if i = j then v else f i) := by
 refine ⟨by simpa [World.setCell] using h.1, fun i hi => ?_, fun i => by simpa using h.2.2 i⟩
 dsimp only
 by_cases e : i = j
 · subst e; rw [if_pos rfl]; exact set_same (h.2.1 i hi)
 · rw [if_neg e, set_other (.inr (fun h => e h.symm))]; exact h.2.1 i hi
theorem check_rel {V w1 : World} {g n2 k x nq : Nat} {f : Nat → Nat} {r l : List Int} (hkn : k < n2) (Hl : l.length = n2) (hk1 : Kept [g] V w1) (hw1 : Wds w1 g f) (hbits : Wl.Bits f (l.take k)) (hx : gi l k = (x : Int))
   (herr : ∀ j, j < k → Wl.err r l j = 0) (he : Wl.err r l k = 0) :
   ∃ (k_1 : Nat) (f_1 : Nat → Nat), k_1 ≤ n2 ∧ Value.int .i64 ((k : Int) + 1) = .int .i64 (k_1 : Int) ∧
     Kept [g] V ((w1.drewN nq).setCell ⟨g, x / 64, none⟩ (.int .u64 (bits BinOp.or IntKind.u64 (f (x / 64) : Int) (IntKind.u64.wrap (2 ^ (x % 64)))))) ∧
     Wds ((w1.drewN nq).setCell ⟨g, x / 64, none⟩ (.int .u64 (bits BinOp.or IntKind.u64 (f (x / 64) : Int) (IntKind.u64.wrap (2 ^ (x % 64)))))) g f_1 ∧
     Hid (Wl.Bits f_1 (l.take k_1)) ∧ Hid (∀ j, j < k_1 → Wl.err r l j = 0) := by
 rw [bit_or _ _ (hbits.1 _) (Nat.mod_lt _ (by omega))]
 refine ⟨k + 1, fun i => if i = x / 64 then f (x / 64) ||| 2 ^ (x % 64) else f i, by omega, rfl, (hk1.drewN nq).set g _ _ (.inl (by simp)), (Wds.set (w := w1.drewN nq) hw1 _ _), ?_, ?_⟩
 · have h1 := Wl.bits_set hbits x
   rw [← hx, ← Wl.take_snoc (by omega)] at h1
   have e : (fun i => if i = x / 64 then f (x / 64) ||| 2 ^ (x % 64) else f i) = (fun i => if i = x / 64 then f i ||| 2 ^ (x % 64) else f i) := by
     funext i; split
     · subst_vars; rfl
     · rfl
   rw [e]
   exact h1
 · intro j hj
   rcases Nat.lt_or_ge j k with h2 | h2
   · exact herr j h2
   · obtain rfl : j = k := by omega
     exact he
end Go.Proofs.YtooejoajojanjaaGreatDoor
namespace Go.Proofs.YtooejoajojanjaaGreatDoor
open Go.RowKit Go.Df
attribute [local go_sem ↓] Go.wp_at_zero Go.wp_at_succ
set_option maxHeartbeats 400000 in
theorem check_main (A1 A2 : Option Addr) (n1 c1 n2 c2 : Nat) (r l : List Int) (w : World) (hr : Ints w A1 n1 r) (hl : Ints w A2 n2 l) (s1 : n1 ≤ 8192) (s2 : n2 ≤ 8192) (hp : 0 < n2) :
   Calls Tryz.prog 129 #[.agg #[.slice A1 n1 c1, .slice A2 n2 c2]] w fun e w' => e = .returned (.int .i64 (Wl.chk r l)) ∧ Below w.heap.size w w' := by
 have hz49 := zero49
 have h1 : decide ((8192 : Int) < n1) = false := by simp; omega
 have h2 : decide ((8192 : Int) < n2) = false := by simp; omega
 have HR := Lib.hid hr
 have HL := Lib.hid hl
 have Hr := Lib.hid hr.1
 have Hl := Lib.hid hl.1
 obtain ⟨b, o, rfl, hlt, hc⟩ := hl.at_ hp
 have HC := Lib.hid hc
 clear hr hl hc
 go_enter Tryz.func129, Tryz.ntmps129
 go_upto_region 1 with fail
 refine wp_named (fun W => ∃ b0, w.heap.size = b0 ∧ Blk W b0 [.slice A1 n1 c1, .slice (some ⟨b, o, none⟩) n2 c2] ∧ Below w.heap.size w W) ⟨_, rfl, ?_, ?_⟩ ?_
 · exact kbn
 · go_grown
 rintro W ⟨b0, e0, B0, hB⟩
 rw [e0]
 have G0 : w.heap.size ≤ b0 := by omega
 clear e0
 have ⟨L0, C0, F0⟩ := B0
 go_upto_region 4 with fail
 refine wp_named (fun V => ∃ g, W.heap.size = g ∧ Wds V g (fun _ => 0) ∧ Kept [] W V) ⟨_, rfl, Wds.new W, (Kept.refl _ _).alloc _⟩ ?_
 rintro V ⟨g, eg, hwd, hkV⟩
 rw [eg]
 have Lg : b0 < g := by omega
 have hbg : b ≠ g := by have := hB.size; omega
 have n0g : b0 ≠ g := by omega
 have hBV := hkV.below hB hB.size (by simp)
 have BV := hkV.blk (by simp) B0
 have hlt' : b < V.heap.size := by have := hBV.size; omega
 have hcV : Hid (∀ i, i < n2 → V.cell? ⟨b, o + i, none⟩ = some (.int .i64 (gi l i))) := fun i hi => (hBV.cell (p := ⟨b, o + i, none⟩) hlt).trans (HC.out i hi)
 have hg0 : w.heap.size ≤ g := by have := hB.size; omega
 clear hkV hB B0 C0 F0 L0 G0 eg HC hlt
 have ⟨L0, C0, F0⟩ := BV
 go_wp2_with fail
 go_loopw [19] (fun i wr => ∃ (k : Nat) (f : Nat → Nat), k ≤ n2 ∧ i = .int .i64 k ∧ Kept [g] V wr ∧ Wds wr g f ∧ Hid (Wl.Bits f (l.take k)) ∧ Hid (∀ j, j < k → Wl.err r l j = 0)) (fun i _ => n2 - (intOf i).toNat)
 case atStart => exact ⟨0, _, Nat.zero_le _, rfl, Kept.refl _ _, hwd, Lib.hid Wl.bits_zero, Lib.hid (fun j hj => absurd hj (by omega))⟩
 case round =>
   obtain ⟨k, f, hk, rfl, hkw, hw, hbits, herr⟩ := hrel
   clear hwd
   have ⟨Lw, Cw, Fw⟩ := hkw.blk (by simpa using n0g) BV
   by_cases hkn : k < n2
   · have hcell : wr.cell? ⟨b, o + k, none⟩ = some (.int .i64 (gi l k)) := (hkw.cell b (o + k) hlt' (by simpa using hbg)).trans (hcV.out k hkn)
     by_cases hal : Wl.allowed n1 (gi l k) = false
     · go_wp2_with (go_at_call 130; refine (allowed_any _ _ _ _ _ _ _ _).mono ?_; rintro e w1 ⟨rfl, hb1⟩)
       go_ret
       refine ⟨ret_int ?_, (hkw.call hb1).below hBV hBV.size (by simpa using hg0)⟩
       have he : Wl.err r l k = 4 := by simp [Wl.err, Hr.out, hal]
       exact (Wl.chk_hit (by rw [Hr.out]; exact s1) (by rw [Hl.out]; exact s2) herr.out (by rw [Hl.out]; exact hkn) he (by omega)).symm
     · have hal : Wl.allowed n1 (gi l k) = true := by simpa using hal
       obtain ⟨x0, x1, x2⟩ := Wl.allowed_lt hal s1
       obtain ⟨x, hx⟩ := Int.eq_ofNat_of_zero_le x0
       rw [hx] at hcell hal x1 x2
       have HX := Lib.hid hx
       clear hx x0
       have hq : x / 64 < 1024 := by omega
       have hv := hbits.out.1 (x / 64)
       have hbt := bit_test (f (x / 64)) (x % 64) hv
       by_cases hin : (f (x / 64)).testBit (x % 64) = true
       · rw [hin] at hbt
         go_wp2_with (go_at_call 130; refine (allowed_any _ _ _ _ _ _ _ _).mono ?_; rintro e w1 ⟨rfl, hb1⟩; have hw1 := hw.later hb1; have hcg := hw1.2.1 _ hq)
         go_ret
         refine ⟨ret_int ?_, (hkw.call hb1).below hBV hBV.size (by simpa using hg0)⟩
         have hm := (hbits.out.2 x (by omega)).1 hin
         have he : Wl.err r l k = 7 := by
           unfold Wl.err
           rw [HX.out, Hr.out, hal]
           simp [hm]
         exact (Wl.chk_hit (by rw [Hr.out]; exact s1) (by rw [Hl.out]; exact s2) herr.out (by rw [Hl.out]; exact hkn) he (by omega)).symm
       · rw [Bool.not_eq_true] at hin
         rw [hin] at hbt
         have hni : ¬ (gi l k ∈ l.take k) := by
           rw [HX.out]; intro hm; have := (hbits.out.2 x (by omega)).2 hm; rw [hin] at this; cases this
         have HNI := Lib.hid hni
         clear hni
         by_cases hz : n1 = 0
         · have z1 : decide (0 < n1) = false := by simp; omega
           have z2 : decide ((0 : Int) < (n1 : Int)) = false := by simp; omega
           have he : Hid (Wl.err r l k = 0) := by
             show Wl.err r l k = 0
             unfold Wl.err
             rw [HX.out, Hr.out, hal, ← HX.out]
             simp [HNI.out, hz]
           have HZ := Lib.hid hz
           clear hz
           go_wp2_with (go_at_call 130; refine (allowed_any _ _ _ _ _ _ _ _).mono ?_; rintro e w1 ⟨rfl, hb1⟩; have hw1 := hw.later hb1; have hcg := hw1.2.1 _ hq; have hk1 : Kept [g] V w1 := hkw.call hb1; have ⟨Lw1, Cw1, Fw1⟩ := hk1.blk (by simpa using n0g) BV; have hfg := hw1.2.2 (x / 64))
           go_quiet (fail)
           go_wp2_with fail
           exact ⟨check_rel hkn Hl.out hk1 hw1 hbits.out HX.out herr.out he.out, by simp [intOf]; omega⟩
         · have z1 : decide (0 < n1) = true := by simp; omega
           have z2 : decide ((0 : Int) < (n1 : Int)) = true := by simp; omega
           have z3 : 0 < n1 := by omega
           by_cases hk0 : k = 0
           · have he : Hid (Wl.err r l k = 0) := by
               show Wl.err r l k = 0
               unfold Wl.err
               rw [HX.out, Hr.out, hal, ← HX.out]
               simp [hk0]
             have y1 : decide (0 < k) = false := by simp; omega
             have y2 : decide ((0 : Int) < (k : Int)) = false := by simp; omega
             have HK0 := Lib.hid hk0
             clear hk0
             go_wp2_with (go_at_call 130; refine (allowed_any _ _ _ _ _ _ _ _).mono ?_; rintro e w1 ⟨rfl, hb1⟩; have hw1 := hw.later hb1; have hcg := hw1.2.1 _ hq; have hk1 : Kept [g] V w1 := hkw.call hb1; have ⟨Lw1, Cw1, Fw1⟩ := hk1.blk (by simpa using n0g) BV; have hfg := hw1.2.2 (x / 64))
             go_quiet (fail)
             go_wp2_with fail
             exact ⟨check_rel hkn Hl.out hk1 hw1 hbits.out HX.out herr.out he.out, by simp [intOf]; omega⟩
           · have y1 : decide (0 < k) = true := by simp; omega
             have y2 : decide ((0 : Int) < (k : Int)) = true := by simp; omega
             have y3 : 0 < k := by omega
             have hprev := herr.out (k - 1) (by omega)
             have hal2 : Wl.allowed n1 (gi l (k - 1)) = true := by
               unfold Wl.err at hprev
               rw [Hr.out] at hprev
               by_cases h5 : Wl.allowed n1 (gi l (k - 1)) = false
               · rw [if_pos h5] at hprev; cases hprev
               · simpa using h5
             obtain ⟨p0, p1, p2⟩ := Wl.allowed_lt hal2 s1
             obtain ⟨y, hy⟩ := Int.eq_ofNat_of_zero_le p0
             have HY := Lib.hid hy
             rw [hy] at p2
             have p3 := p2 z3
             have x3 := x2 z3
             have hcellp : ∀ wx, Kept [g] V wx → wx.cell? ⟨b, o + (k - 1), none⟩ = some (.int .i64 (y : Int)) := fun wx hh => by
               rw [← HY.out]; exact (hh.cell b (o + (k - 1)) hlt' (by simpa using hbg)).trans (hcV.out (k - 1) (by omega))
             have HP := Lib.hid hcellp
             clear hcellp hprev hal2 p0 p1 p2 hy x2 hk0 hz
             by_cases hbf : Wl.before r (x : Int) (y : Int) = true
             · go_wp2_with (go_at_call 130; refine (allowed_any _ _ _ _ _ _ _ _).mono ?_; rintro e w1 ⟨rfl, hb1⟩; have hw1 := hw.later hb1; have hcg := hw1.2.1 _ hq; have hk1 : Kept [g] V w1 := hkw.call hb1; have ⟨Lw1, Cw1, Fw1⟩ := hk1.blk (by simpa using n0g) BV; have hfg := hw1.2.2 (x / 64); have hcp := HP.out _ hk1; have hrq : Hid (Ints w1 A1 n1 r) := Lib.hid (HR.out.later (hk1.below hBV hBV.size (by simpa using hg0))))
               go_quiet ((go_at_call 132; exact Calls.quiet_of (before_q _ _ _ r _ _ _ (show Ints (World.drewN w1 _) A1 n1 r from hrq.out) (by omega) (by omega) (by omega) (by omega))))
               go_wp2_with fail
               go_ret
               refine ⟨ret_int ?_, (hk1.drewN _).below hBV hBV.size (by simpa using hg0)⟩
               have he : Wl.err r l k = 13 := by
                 unfold Wl.err
                 rw [HX.out, Hr.out, hal, ← HX.out]
                 simp [HNI.out]
                 rw [HX.out, HY.out]
                 exact ⟨z3, y3, hbf⟩
               exact (Wl.chk_hit (by rw [Hr.out]; exact s1) (by rw [Hl.out]; exact s2) herr.out (by rw [Hl.out]; exact hkn) he (by omega)).symm
             · rw [Bool.not_eq_true] at hbf
               have he : Hid (Wl.err r l k = 0) := by
                 show Wl.err r l k = 0
                 unfold Wl.err
                 rw [HX.out, Hr.out, hal, ← HX.out]
                 simp [HNI.out]
                 rw [HX.out, HY.out]
                 intro _ _
                 exact hbf
               go_wp2_with (go_at_call 130; refine (allowed_any _ _ _ _ _ _ _ _).mono ?_; rintro e w1 ⟨rfl, hb1⟩; have hw1 := hw.later hb1; have hcg := hw1.2.1 _ hq; have hk1 : Kept [g] V w1 := hkw.call hb1; have ⟨Lw1, Cw1, Fw1⟩ := hk1.blk (by simpa using n0g) BV; have hfg := hw1.2.2 (x / 64); have hcp := HP.out _ hk1; have hrq : Hid (Ints w1 A1 n1 r) := Lib.hid (HR.out.later (hk1.below hBV hBV.size (by simpa using hg0))))
               go_quiet ((go_at_call 132; exact Calls.quiet_of (before_q _ _ _ r _ _ _ (show Ints (World.drewN w1 _) A1 n1 r from hrq.out) (by omega) (by omega) (by omega) (by omega))))
               go_wp2_with fail
               exact ⟨check_rel hkn Hl.out hk1 hw1 hbits.out HX.out herr.out he.out, by simp [intOf]; omega⟩
   · go_wp2
     go_ret
     refine ⟨ret_int ?_, hkw.below hBV hBV.size (by simpa using hg0)⟩
     exact (Wl.chk_ok (by rw [Hr.out]; exact s1) (by rw [Hl.out]; exact s2) (fun j hj => herr.out j (by rw [Hl.out] at hj; omega))).symm
set_option maxHeartbeats 400000 in
theorem wlck_any (A1 A2 : Option Addr) (n1 c1 n2 c2 : Nat) (r l : List Int) (w : World) (hr : Ints w A1 n1 r) (hl : Ints w A2 n2 l) :
   Calls Tryz.prog 129 #[.agg #[.slice A1 n1 c1, .slice A2 n2 c2]] w fun e w' => e = .returned (.int .i64 (Wl.chk r l)) ∧ Below w.heap.size w w' := by
 by_cases t1 : 8192 < n1
 · have e1 : Hid (Wl.chk r l = 3) := by
     show Wl.chk r l = 3
     rw [Wl.chk, if_pos (by have := hr.1; omega)]
   have h1 : decide ((8192 : Int) < n1) = true := by simp; omega
   clear hr hl
   go_enter Tryz.func129, Tryz.ntmps129
   go_wp2
   go_ret
   exact ⟨ret_int e1.out.symm, by go_grown⟩
 · by_cases t2 : 8192 < n2
   · have e1 : Hid (Wl.chk r l = 3) := by
       show Wl.chk r l = 3
       rw [Wl.chk, if_pos (by have := hl.1; omega)]
     have h1 : decide ((8192 : Int) < n1) = false := by simp; omega
     have h2 : decide ((8192 : Int) < n2) = true := by simp; omega
     clear hr hl
     go_enter Tryz.func129, Tryz.ntmps129
     go_wp2
     go_ret
     exact ⟨ret_int e1.out.symm, by go_grown⟩
   · rcases Nat.eq_zero_or_pos n2 with rfl | hp
     · have hz49 := zero49
       have e1 : Hid (Wl.chk r l = 0) := by
         show Wl.chk r l = 0
         have : l = [] := List.eq_nil_of_length_eq_zero hl.1
         subst this
         rw [Wl.chk, if_neg (by have := hr.1; simp; omega)]; rfl
       have h1 : decide ((8192 : Int) < n1) = false := by simp; omega
       clear hr hl
       go_enter Tryz.func129, Tryz.ntmps129
       go_wp2
       refine wp_loop_rounds 1 ?_
       rw [rounds_succ]
       go_wp2
       go_ret
       exact ⟨ret_int e1.out.symm, by go_grown⟩
     · exact check_main A1 A2 n1 c1 n2 c2 r l w hr hl (by omega) (by omega) hp
def GetQE (w : World) (r l : List Int) (x : Int) (e : Ending) (w' : World) : Prop :=
 ∃ A1 n1 c1 A2 n2 c2, e = .returned (.tuple #[.agg #[.slice A1 n1 c1, .slice A2 n2 c2], .int .i64 x]) ∧ SIn w' A1 n1 c1 r ∧ SIn w' A2 n2 c2 l ∧ Below w.heap.size w w' ∧ Fr w w' A1 ∧ Fr w w' A2
set_option maxHeartbeats 400000 in
theorem new_ok (A : Option Addr) (n c : Nat) (r : List Int) (w : World) (hr : Ints w A n r) (hn : n ≤ 8192) (hA : A = none → n = 0) :
   Calls Tryz.prog 88 #[.slice A n c] w (GetQE w r [] 0) := by
 have h1 : decide ((8192 : Int) < n) = false := by simp; omega
 have HR := Lib.hid hr
 have HA := Lib.hid hA
 clear hr hA
 go_enter Tryz.func88, Tryz.ntmps88
 go_upto_region 1 with fail
 refine wp_named (fun W => ∃ b0, w.heap.size = b0 ∧ Blk W b0 [.slice none 0 0, .slice none 0 0] ∧ Below w.heap.size w W) ⟨_, rfl, ?_, ?_⟩ ?_
 · exact kbn
 · go_grown
 rintro W ⟨b0, e0, B0, hB⟩
 rw [e0]
 have G0 : w.heap.size ≤ b0 := by omega
 clear e0
 have ⟨L0, C0, F0⟩ := B0
 go_wp2_with fail
 refine (clone_any _ _ _ r _ (HR.out.later hB) (by omega) HA.out).mono ?_
 rintro e w1 ⟨v, rfl, hown, hb1⟩
 obtain ⟨A', c', hv, hi, hge⟩ := SIn.of_own hown
 have hk1 : Kept [] W w1 := Kept.call (Kept.refl _ _) hb1
 have ⟨hc1, hf1, hg1⟩ := hk1.rules
 have ⟨L1, C1, F1⟩ := hk1.blk (by simp) B0
 clear hown
 subst hv
 go_wp2_with fail
 refine bodyPost_ret (by simp [results, Tryz.results88, go_sem, *]; rfl) rfl ?_
 have hkf := ((Kept.refl [b0] w1).set b0 0 (.slice A' n c') (.inl (by simp))).set b0 1 (.slice none 0 0) (.inl (by simp))
 refine ⟨_, _, _, _, _, _, rfl, hi.keptX hkf (fun _ a ha => ?_), SIn.nil _, ?_, fun a ha => ?_, Fr.none _ _⟩
 · have := hge a ha
   simp; omega
 · exact hkf.below (hk1.below hB hB.size (by simp)) (Nat.le_trans hB.size hk1.size) (by simpa using G0)
 · have t1 := hge a ha; have t2 := hB.size; have t3 := hkf.size; omega
end Go.Proofs.YtooejoajojanjaaGreatDoor
