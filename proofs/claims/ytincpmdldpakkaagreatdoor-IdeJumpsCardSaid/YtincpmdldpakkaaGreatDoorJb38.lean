/- Texts: Sl. -/
import Derived.Test.YtincpmdldpakkaaGreatDoorJb37
namespace Go.Proofs.YtincpmdldpakkaaGreatDoor
open Go.RowKit Go.Df
attribute [local go_sem ↓] Go.wp_at_zero Go.wp_at_succ
set_option maxRecDepth 100000 in
set_option maxHeartbeats 4000000 in
theorem matches_any (A1 A2 : Option Addr) (n1 c1 n2 c2 : Nat) (mn : Int) (p q m1 m2 : Nat) (ea eb : Nat) (ek ec : Int) (ns : List Sp.Nd) (st : Int → Int) (en : Int → Int → Bool) (w : World) (hn : Nds w A1 n1 ns) (hs : n1 ≤ 1000000)
   (ha : ea < n1) (hb : eb < n1) (hc : ek ≠ 1 → ek ≠ 5 → ek ≠ 2 → 0 ≤ ec ∧ ec < n1) (hw : ∀ j, j < n1 → (Lit.int .i64 (gn ns j).f).wf = true) (hst : ∀ x, 0 ≤ st x ∧ st x ≤ 1000000)
   (Mp : MapV Tryz.prog 3 3 (.int .i64 0) w p m1 (mv st)) (Mq : MapV Tryz.prog 220 4 (.bool false) w q m2 (mb en)) :
   Calls Tryz.prog 127 #[.agg #[.slice A1 n1 c1, .slice A2 n2 c2, .int .i64 mn], .map (some p), .map (some q), .agg #[.int .i64 ea, .int .i64 eb, .int .i64 ek, .int .i64 ec]] w fun e w' =>
     e = .returned (.bool (Sp.matchN ek ec ea (gn ns ea) (gn ns eb) (gn ns ec.toNat) (en ec (st (gn ns ea).f)))) ∧ Below w.heap.size w w' := by
 have HWF := Lib.hid hw
 have HST := Lib.hid hst
 have MP := Lib.hid Mp
 have MQ := Lib.hid Mq
 have HC := Lib.hid hc
 obtain ⟨b, o, rfl, hl, hcl⟩ := hn.2 (by omega)
 obtain ⟨p1, p2, p3⟩ := hcl ea ha
 obtain ⟨q1, q2, q3⟩ := hcl eb hb
 have HCl := Lib.hid hcl
 clear hn hc hcl hw hst Mp Mq
 go_enter Tryz.func127, Tryz.ntmps127
 go_upto_region 1 with fail
 refine wp_named (fun W => ∃ b0 b1, w.heap.size = b0 ∧ w.heap.size + 1 = b1 ∧ Blk W b0 [.slice (some ⟨b, o, none⟩) n1 c1, .slice A2 n2 c2, .int .i64 mn] ∧ Blk W b1 [.int .i64 ea, .int .i64 eb, .int .i64 ek, .int .i64 ec] ∧ Below w.heap.size w W) ⟨_, _, rfl, rfl, ?_, ?_, ?_⟩ ?_
 · exact (Blk.new _ _ _ _ (by first | rfl | simp)).alloc _
 · exact kbn
 · go_grown
 rintro W ⟨b0, b1, e0, e1, B0, B1, hB⟩
 rw [e1, e0]
 have G0 : w.heap.size ≤ b0 := by omega
 have n01 : b0 ≠ b1 := by omega
 have G1 : w.heap.size ≤ b1 := by omega
 have n10 : b1 ≠ b0 := by omega
 clear e0 e1
 have ⟨L0, C0, F0⟩ := B0
 have ⟨L1, C1, F1⟩ := B1
 have hlW : b < W.heap.size := Nat.lt_of_lt_of_le hl hB.size
 obtain ⟨f1, k1, i1, e1⟩ : ∃ f k i, gn ns ea = ⟨f, k, i⟩ := ⟨_, _, _, rfl⟩
 obtain ⟨f2, k2, i2, e2⟩ : ∃ f k i, gn ns eb = ⟨f, k, i⟩ := ⟨_, _, _, rfl⟩
 rw [e1] at p1 p2 p3
 rw [e2] at q1 q2 q3
 have r1 : W.cell? ⟨b, o + ea * 3, none⟩ = some (.int .i64 f1) := (hB.cell (p := ⟨b, _, none⟩) hl).trans p1
 have r2 : W.cell? ⟨b, o + ea * 3 + 1, none⟩ = some (.int .i64 k1) := (hB.cell (p := ⟨b, _, none⟩) hl).trans p2
 have r3 : W.cell? ⟨b, o + ea * 3 + 2, none⟩ = some (.int .i64 i1) := (hB.cell (p := ⟨b, _, none⟩) hl).trans p3
 have r4 : W.cell? ⟨b, o + eb * 3, none⟩ = some (.int .i64 f2) := (hB.cell (p := ⟨b, _, none⟩) hl).trans q1
 have r5 : W.cell? ⟨b, o + eb * 3 + 1, none⟩ = some (.int .i64 k2) := (hB.cell (p := ⟨b, _, none⟩) hl).trans q2
 have r6 : W.cell? ⟨b, o + eb * 3 + 2, none⟩ = some (.int .i64 i2) := (hB.cell (p := ⟨b, _, none⟩) hl).trans q3
 have E1 := Lib.hid e1
 have E2 := Lib.hid e2
 have x1 : (0 : Int) ≤ (ea : Int) := by omega
 have x2 : (ea : Int) < (n1 : Int) := by omega
 have x3 : (0 : Int) ≤ (eb : Int) := by omega
 have x4 : (eb : Int) < (n1 : Int) := by omega
 clear p1 p2 p3 q1 q2 q3 e1 e2
 go_upto_region 1 with fail
 go_cut [9, 10] (fun s t wx => ∃ g5 g6 : Nat, s = .pointer (some ⟨g5, 0, none⟩) ∧ t = .pointer (some ⟨g6, 0, none⟩) ∧ Blk wx g5 [.int .i64 f1, .int .i64 k1, .int .i64 i1] ∧ Blk wx g6 [.int .i64 f2, .int .i64 k2, .int .i64 i2] ∧ Kept [] W wx)
 case first =>
   go_region_held3 (fun w' => SX0 W w') (exact kp0) (fail)
   all_goals
     go_wp2_with fail
     go_meet
     refine ⟨_, _, rfl, rfl, ?_, ?_, ?_⟩
     · (exact kpb)
     · (exact kpb)
     · (exact kpt0)
 case rest =>
   obtain ⟨g5, g6, rfl, rfl, B5, B6, hkc⟩ := hcut
   have BC0 := hkc.blk (by simp) B0
   have BC1 := hkc.blk (by simp) B1
   have ⟨L0', C0', F0'⟩ := BC0
   have ⟨L1', C1', F1'⟩ := BC1
   have ⟨L5, C5, F5⟩ := B5
   have ⟨L6, C6, F6⟩ := B6
   have hBc := hkc.below hB hB.size (by simp)
   have HF : Hid (Sp.matchN ek ec ea (gn ns ea) (gn ns eb) (gn ns ec.toNat) (en ec (st (gn ns ea).f)) = Sp.matchN ek ec ea ⟨f1, k1, i1⟩ ⟨f2, k2, i2⟩ (gn ns ec.toNat) (en ec (st f1))) := by
     show Sp.matchN _ _ _ _ _ _ _ = _
     rw [E1.out, E2.out]
   clear C0 F0 C1 F1 r1 r2 r3 r4 r5 r6
   by_cases h1 : ek = 1
   · have t1 : (ek == 1) = true := by simpa using h1
     have HH := Lib.hid h1
     clear h1
     go_wp2_with fail
     all_goals
       go_ret
       refine ⟨ret_bool ?_, hBc⟩
       rw [HF.out, HH.out]
       clear C0' C1' C5 C6 F0' F1' F5 F6
       first | (simp_all [Sp.matchN]; done) | (simp_all [Sp.matchN]; rw [Bool.eq_iff_iff]; simp_all; try omega)
   · have t1 : (ek == 1) = false := by simpa using h1
     by_cases h5 : ek = 5
     · have t5 : (ek == 5) = true := by simpa using h5
       have HH := Lib.hid h5
       clear h5 h1
       go_wp2_with fail
       all_goals
         go_ret
         refine ⟨ret_bool ?_, hBc⟩
         rw [HF.out, HH.out]
         clear C0' C1' C5 C6 F0' F1' F5 F6
         first | (simp_all [Sp.matchN]; done) | (simp_all [Sp.matchN]; rw [Bool.eq_iff_iff]; simp_all; try omega)
     · have t5 : (ek == 5) = false := by simpa using h5
       by_cases h2 : ek = 2
       · have t2 : (ek == 2) = true := by simpa using h2
         have HH := Lib.hid h2
         clear h2 h1 h5
         go_wp2_with fail
         all_goals
           go_ret
           refine ⟨ret_bool ?_, hBc⟩
           rw [HF.out, HH.out]
           clear C0' C1' C5 C6 F0' F1' F5 F6
           first | (simp_all [Sp.matchN]; done) | (simp_all [Sp.matchN]; rw [Bool.eq_iff_iff]; simp_all; try omega)
       · have t2 : (ek == 2) = false := by simpa using h2
         obtain ⟨c0, cn⟩ := HC.out h1 h5 h2
         obtain ⟨x, rfl⟩ := Int.eq_ofNat_of_zero_le c0
         have hx : x < n1 := by omega
         obtain ⟨s1, s2, s3⟩ := HCl.out x hx
         obtain ⟨f3, k3, i3, e3⟩ : ∃ f k i, gn ns x = ⟨f, k, i⟩ := ⟨_, _, _, rfl⟩
         rw [e3] at s1 s2 s3
         have u1 : wc.cell? ⟨b, o + x * 3, none⟩ = some (.int .i64 f3) := (hBc.cell (p := ⟨b, _, none⟩) hl).trans s1
         have u2 : wc.cell? ⟨b, o + x * 3 + 1, none⟩ = some (.int .i64 k3) := (hBc.cell (p := ⟨b, _, none⟩) hl).trans s2
         have u3 : wc.cell? ⟨b, o + x * 3 + 2, none⟩ = some (.int .i64 i3) := (hBc.cell (p := ⟨b, _, none⟩) hl).trans s3
         have E3 := Lib.hid e3
         have hlc : b < wc.heap.size := Nat.lt_of_lt_of_le hl hBc.size
         obtain ⟨s, hse⟩ : ∃ s, st f1 = s := ⟨_, rfl⟩
         obtain ⟨cb, hcb⟩ : ∃ cb, en x s = cb := ⟨_, rfl⟩
         have hf1 : (Lit.int .i64 f1).wf = true := by have := HWF.out ea ha; rw [E1.out] at this; exact this
         have HK1 := Lib.hid (Tryz.keyInt f1 hf1)
         have hsb := HST.out f1
         rw [hse] at hsb
         obtain ⟨kl, hkl⟩ := Tryz.keyEdge (x : Int) s (WalkArith.wf_i64 (by omega)) (WalkArith.wf_i64 (by omega))
         have HK2 := Lib.hid hkl
         have HV1 := Lib.hid (show mv st (.int .i64 f1) = .int .i64 s from congrArg _ hse)
         have HV2 := Lib.hid (show mb en (.agg #[.int .i64 (x : Int), .int .i64 s]) = .bool cb from congrArg Lit.bool hcb)
         have HF2 : Hid (Sp.matchN ek x ea (gn ns ea) (gn ns eb) (gn ns x) (en x (st (gn ns ea).f)) = (decide (k1 = if ek = 4 then 4 else 3) && decide (k3 = 2) && cb && decide (f2 = f3) && decide (k2 ≠ 1))) := by
           show Sp.matchN _ _ _ _ _ _ _ = _
           rw [E1.out, E2.out, E3.out]
           dsimp only
           rw [hse, hcb]
           unfold Sp.matchN
           rw [if_neg h1, if_neg h5, if_neg h2]
         clear s1 s2 s3 e3 hse hcb hkl hf1 hsb HF
         by_cases h4 : ek = 4
         all_goals
           first
             | (have t4 : (ek == 4) = true := by simpa using h4)
             | (have t4 : (ek == 4) = false := by simpa using h4)
           obtain ⟨lv, hlv⟩ : ∃ lv : Int, lv = (if ek = 4 then 4 else 3) := ⟨_, rfl⟩
           obtain ⟨v1, hv1⟩ : ∃ v, (k1 == lv) = v := ⟨_, rfl⟩
           obtain ⟨v2, hv2⟩ : ∃ v, (k3 == 2) = v := ⟨_, rfl⟩
           obtain ⟨v4, hv4⟩ : ∃ v, (f2 == f3) = v := ⟨_, rfl⟩
           obtain ⟨v5, hv5⟩ : ∃ v, (k2 != 1) = v := ⟨_, rfl⟩
           have HF3 : Hid (Sp.matchN ek x ea (gn ns ea) (gn ns eb) (gn ns x) (en x (st (gn ns ea).f)) = (v1 && v2 && cb && v4 && v5)) := by
             show Sp.matchN _ _ _ _ _ _ _ = _
             rw [HF2.out, ← hlv, ← hv1, ← hv2, ← hv4, ← hv5]
             rw [Bool.eq_iff_iff]
             simp
           clear HF2
           first
             | (have hl4 : lv = 4 := by rw [hlv, if_pos h4])
             | (have hl4 : lv = 3 := by rw [hlv, if_neg h4])
           subst hl4
           clear h4 h1 h2 h5 hlv
           go_upto_region 13 with fail
           refine wp_named (fun V => ∃ g, wc.heap.size = g ∧ Blk V g [.int .i64 f3, .int .i64 k3, .int .i64 i3] ∧ Kept [] wc V) ⟨_, rfl, Blk.new _ _ _ _ rfl, (Kept.refl _ _).alloc _⟩ ?_
           rintro V ⟨g, eg, Bg, hkV⟩
           rw [eg]
           have hkw : Kept [] W V := keptTrans hkc hkV
           have hBV := hkw.below hB hB.size (by simp)
           have ⟨M0, D0, G0'⟩ := hkV.blk (by simp) BC0
           have ⟨M1, D1, G1'⟩ := hkV.blk (by simp) BC1
           have ⟨M5, D5, G5'⟩ := hkV.blk (by simp) B5
           have ⟨M6, D6, G6'⟩ := hkV.blk (by simp) B6
           have ⟨Mg, Dg, Gg⟩ := Bg
           have kw0 : Kept [] w V := (Kept.refl _ _).call hBV
           have MPV := Lib.hid (MP.out.kept kw0 (by simp))
           have MQV := Lib.hid (MQ.out.kept kw0 (by simp))
           clear C0' C1' C5 C6 F0' F1' F5 F6 u1 u2 u3 eg
           cases v1 with
           | false =>
             go_wp2_with fail
             go_ret
             exact ⟨ret_bool (HF3.out.trans (by simp)).symm, hBV⟩
           | true =>
           cases v2 with
           | false =>
             go_wp2_with fail
             go_ret
             exact ⟨ret_bool (HF3.out.trans (by simp)).symm, hBV⟩
           | true =>
           cases cb with
           | false =>
             go_wp2_with (first | (at_lookup; refine wpList_look_intg _ rfl _ _ 215 rfl 3 3 Tryz.lawInt Tryz.mapII Tryz.undInt (Tryz.zeroInt _) p m1 _ rfl MPV.out (.int .i64 f1) _ rfl HK1.out s HV1.out ?_) | (at_lookup; refine wpList_look_boolg _ rfl _ _ 218 rfl 220 4 Tryz.lawEdge Tryz.mapEB Tryz.undBool (Tryz.zeroBool _) q m2 _ rfl MQV.out (.agg #[.int .i64 (x : Int), .int .i64 s]) _ rfl HK2.out false HV2.out ?_) | go_in)
             go_ret
             exact ⟨ret_bool (HF3.out.trans (by simp)).symm, hBV⟩
           | true =>
           cases v4 with
           | false =>
             go_wp2_with (first | (at_lookup; refine wpList_look_intg _ rfl _ _ 215 rfl 3 3 Tryz.lawInt Tryz.mapII Tryz.undInt (Tryz.zeroInt _) p m1 _ rfl MPV.out (.int .i64 f1) _ rfl HK1.out s HV1.out ?_) | (at_lookup; refine wpList_look_boolg _ rfl _ _ 218 rfl 220 4 Tryz.lawEdge Tryz.mapEB Tryz.undBool (Tryz.zeroBool _) q m2 _ rfl MQV.out (.agg #[.int .i64 (x : Int), .int .i64 s]) _ rfl HK2.out true HV2.out ?_) | go_in)
             go_ret
             exact ⟨ret_bool (HF3.out.trans (by simp)).symm, hBV⟩
           | true =>
           cases v5 with
           | false =>
             go_wp2_with (first | (at_lookup; refine wpList_look_intg _ rfl _ _ 215 rfl 3 3 Tryz.lawInt Tryz.mapII Tryz.undInt (Tryz.zeroInt _) p m1 _ rfl MPV.out (.int .i64 f1) _ rfl HK1.out s HV1.out ?_) | (at_lookup; refine wpList_look_boolg _ rfl _ _ 218 rfl 220 4 Tryz.lawEdge Tryz.mapEB Tryz.undBool (Tryz.zeroBool _) q m2 _ rfl MQV.out (.agg #[.int .i64 (x : Int), .int .i64 s]) _ rfl HK2.out true HV2.out ?_) | go_in)
             go_ret
             exact ⟨ret_bool (HF3.out.trans (by simp)).symm, hBV⟩
           | true =>
             go_wp2_with (first | (at_lookup; refine wpList_look_intg _ rfl _ _ 215 rfl 3 3 Tryz.lawInt Tryz.mapII Tryz.undInt (Tryz.zeroInt _) p m1 _ rfl MPV.out (.int .i64 f1) _ rfl HK1.out s HV1.out ?_) | (at_lookup; refine wpList_look_boolg _ rfl _ _ 218 rfl 220 4 Tryz.lawEdge Tryz.mapEB Tryz.undBool (Tryz.zeroBool _) q m2 _ rfl MQV.out (.agg #[.int .i64 (x : Int), .int .i64 s]) _ rfl HK2.out true HV2.out ?_) | go_in)
             go_ret
             exact ⟨ret_bool (HF3.out.trans (by simp)).symm, hBV⟩
end Go.Proofs.YtincpmdldpakkaaGreatDoor
