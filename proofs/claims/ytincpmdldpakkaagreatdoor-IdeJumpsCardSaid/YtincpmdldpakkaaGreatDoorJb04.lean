/- Texts: Sg. -/
import Derived.Test.YtincpmdldpakkaaGreatDoorJb03
namespace Go.Df.Sp
def fitsN (ek ec ea : Int) (fr td cl : Nd) (cb : Bool) : Bool :=
 if ek = 1 ∨ ek = 5 then decide (fr.f = td.f) && decide (fr.k ≠ 3) && decide (fr.k ≠ 4) && decide (td.k ≠ 1) && (decide (ek = 1) || decide (fr.k = 2))
 else if ek = 2 then decide (fr.k = 2) && decide (ec = ea) && decide (td.k = 1)
 else if (ek = 3 ∧ fr.k ≠ 3) ∨ (ek = 4 ∧ fr.k ≠ 4) then false
 else decide (cl.k = 2) && cb && decide (td.f = cl.f) && decide (td.k ≠ 1)
def fitsB (ns : List Nd) (es : List Ed) (e : Ed) : Bool :=
 fitsN e.k e.c e.a (gn ns e.a.toNat) (gn ns e.b.toNat) (gn ns e.c.toNat) (callsB ns es e.c (gn ns e.a.toNat).f)
end Go.Df.Sp
namespace Go.Proofs.YtincpmdldpakkaaGreatDoor
open Go.RowKit Go.Df
attribute [local go_sem ↓] Go.wp_at_zero Go.wp_at_succ
set_option maxRecDepth 100000 in
set_option maxHeartbeats 4000000 in
theorem fits_any (A1 A2 : Option Addr) (n1 c1 n2 c2 : Nat) (mn : Int) (ea eb : Nat) (ek ec : Int) (ns : List Sp.Nd) (es : List Sp.Ed) (w : World) (hn : Nds w A1 n1 ns) (he : Eds w A2 n2 es) (hs : n1 ≤ 1000000) (hs2 : n2 ≤ 1000000)
   (ha : ea < n1) (hb : eb < n1) (hc : ek ≠ 1 → ek ≠ 5 → ek ≠ 2 → 0 ≤ ec ∧ ec < n1) :
   Calls Tryz.prog 70 #[.agg #[.slice A1 n1 c1, .slice A2 n2 c2, .int .i64 mn], .agg #[.int .i64 ea, .int .i64 eb, .int .i64 ek, .int .i64 ec]] w fun e w' => e = .returned (.bool (Sp.fitsB ns es ⟨ea, eb, ek, ec⟩)) ∧ Below w.heap.size w w' := by
 have HN := Lib.hid hn
 have HE := Lib.hid he
 have HC := Lib.hid hc
 obtain ⟨b, o, rfl, hl, hcl⟩ := hn.2 (by omega)
 obtain ⟨p1, p2, p3⟩ := hcl ea ha
 obtain ⟨q1, q2, q3⟩ := hcl eb hb
 have HCl := Lib.hid hcl
 clear hn he hc hcl
 go_enter Tryz.func70, Tryz.ntmps70
 go_upto_region 1 with fail
 refine wp_named (fun W => ∃ b0 b1, w.heap.size = b0 ∧ w.heap.size + 1 = b1 ∧ Blk W b0 [.slice (some ⟨b, o, none⟩) n1 c1, .slice A2 n2 c2, .int .i64 mn] ∧ Blk W b1 [.int .i64 ea, .int .i64 eb, .int .i64 ek, .int .i64 ec] ∧ Below w.heap.size w W) ⟨_, _, rfl, rfl, ?_, ?_, ?_⟩ ?_
 · exact (Blk.new _ _ _ _ (by first | rfl | simp)).alloc _
 · exact kbn
 · go_grown
 rintro W ⟨b0, b1, e0, e1, B0, B1, hB⟩
 rw [e1, e0]
 have G0 : w.heap.size ≤ b0 := by omega
 have n01 : b0 ≠ b1 := by omega
 have G1 : w.heap.size ≤ b1 := by omega
 have n10 : b1 ≠ b0 := by omega
 clear e0 e1
 have ⟨L0, C0, F0⟩ := B0
 have ⟨L1, C1, F1⟩ := B1
 have hlW : b < W.heap.size := Nat.lt_of_lt_of_le hl hB.size
 obtain ⟨f1, k1, i1, e1⟩ : ∃ f k i, gn ns ea = ⟨f, k, i⟩ := ⟨_, _, _, rfl⟩
 obtain ⟨f2, k2, i2, e2⟩ : ∃ f k i, gn ns eb = ⟨f, k, i⟩ := ⟨_, _, _, rfl⟩
 rw [e1] at p1 p2 p3
 rw [e2] at q1 q2 q3
 have r1 : W.cell? ⟨b, o + ea * 3, none⟩ = some (.int .i64 f1) := (hB.cell (p := ⟨b, _, none⟩) hl).trans p1
 have r2 : W.cell? ⟨b, o + ea * 3 + 1, none⟩ = some (.int .i64 k1) := (hB.cell (p := ⟨b, _, none⟩) hl).trans p2
 have r3 : W.cell? ⟨b, o + ea * 3 + 2, none⟩ = some (.int .i64 i1) := (hB.cell (p := ⟨b, _, none⟩) hl).trans p3
 have r4 : W.cell? ⟨b, o + eb * 3, none⟩ = some (.int .i64 f2) := (hB.cell (p := ⟨b, _, none⟩) hl).trans q1
 have r5 : W.cell? ⟨b, o + eb * 3 + 1, none⟩ = some (.int .i64 k2) := (hB.cell (p := ⟨b, _, none⟩) hl).trans q2
 have r6 : W.cell? ⟨b, o + eb * 3 + 2, none⟩ = some (.int .i64 i2) := (hB.cell (p := ⟨b, _, none⟩) hl).trans q3
 have E1 := Lib.hid e1
 have E2 := Lib.hid e2
 have x1 : (0 : Int) ≤ (ea : Int) := by omega
 have x2 : (ea : Int) < (n1 : Int) := by omega
 have x3 : (0 : Int) ≤ (eb : Int) := by omega
 have x4 : (eb : Int) < (n1 : Int) := by omega
 clear p1 p2 p3 q1 q2 q3 e1 e2
 go_upto_region 1 with fail
 go_cut [5, 6] (fun s t wx => ∃ g5 g6 : Nat, s = .pointer (some ⟨g5, 0, none⟩) ∧ t = .pointer (some ⟨g6, 0, none⟩) ∧ Blk wx g5 [.int .i64 f1, .int .i64 k1, .int .i64 i1] ∧ Blk wx g6 [.int .i64 f2, .int .i64 k2, .int .i64 i2] ∧ Kept [] W wx)
 case first =>
   go_region_held3 (fun w' => SX0 W w') (exact kp0) (fail)
   all_goals
     go_wp2_with fail
     go_meet
     refine ⟨_, _, rfl, rfl, ?_, ?_, ?_⟩
     · (exact kpb)
     · (exact kpb)
     · (exact kpt0)
 case rest =>
   obtain ⟨g5, g6, rfl, rfl, B5, B6, hkc⟩ := hcut
   have BC0 := hkc.blk (by simp) B0
   have BC1 := hkc.blk (by simp) B1
   have ⟨L0', C0', F0'⟩ := BC0
   have ⟨L1', C1', F1'⟩ := BC1
   have ⟨L5, C5, F5⟩ := B5
   have ⟨L6, C6, F6⟩ := B6
   have hBc := hkc.below hB hB.size (by simp)
   have HF : Hid (Sp.fitsB ns es ⟨ea, eb, ek, ec⟩ = Sp.fitsN ek ec ea ⟨f1, k1, i1⟩ ⟨f2, k2, i2⟩ (gn ns ec.toNat) (Sp.callsB ns es ec f1)) := by
     show Sp.fitsB ns es ⟨ea, eb, ek, ec⟩ = _
     unfold Sp.fitsB
     simp only [Int.toNat_natCast]
     rw [E1.out, E2.out]
   clear C0 F0 C1 F1 r1 r2 r3 r4 r5 r6
   by_cases h1 : ek = 1
   · have t1 : (ek == 1) = true := by simpa using h1
     have HH := Lib.hid h1
     clear h1
     go_wp2_with fail
     all_goals
       go_ret
       refine ⟨ret_bool ?_, hBc⟩
       rw [HF.out, HH.out]
       clear C0' C1' C5 C6 F0' F1' F5 F6
       first | (simp_all [Sp.fitsN]; done) | (simp_all [Sp.fitsN]; rw [Bool.eq_iff_iff]; simp_all; try omega)
   · have t1 : (ek == 1) = false := by simpa using h1
     by_cases h5 : ek = 5
     · have t5 : (ek == 5) = true := by simpa using h5
       have HH := Lib.hid h5
       clear h5 h1
       go_wp2_with fail
       all_goals
         go_ret
         refine ⟨ret_bool ?_, hBc⟩
         rw [HF.out, HH.out]
         clear C0' C1' C5 C6 F0' F1' F5 F6
         first | (simp_all [Sp.fitsN]; done) | (simp_all [Sp.fitsN]; rw [Bool.eq_iff_iff]; simp_all; try omega)
     · have t5 : (ek == 5) = false := by simpa using h5
       by_cases h2 : ek = 2
       · have t2 : (ek == 2) = true := by simpa using h2
         have HH := Lib.hid h2
         clear h2 h1 h5
         go_wp2_with fail
         all_goals
           go_ret
           refine ⟨ret_bool ?_, hBc⟩
           rw [HF.out, HH.out]
           clear C0' C1' C5 C6 F0' F1' F5 F6
           first | (simp_all [Sp.fitsN]; done) | (simp_all [Sp.fitsN]; rw [Bool.eq_iff_iff]; simp_all; try omega)
       · have t2 : (ek == 2) = false := by simpa using h2
         obtain ⟨c0, cn⟩ := HC.out h1 h5 h2
         obtain ⟨x, rfl⟩ := Int.eq_ofNat_of_zero_le c0
         have hx : x < n1 := by omega
         obtain ⟨s1, s2, s3⟩ := HCl.out x hx
         obtain ⟨f3, k3, i3, e3⟩ : ∃ f k i, gn ns x = ⟨f, k, i⟩ := ⟨_, _, _, rfl⟩
         rw [e3] at s1 s2 s3
         have u1 : wc.cell? ⟨b, o + x * 3, none⟩ = some (.int .i64 f3) := (hBc.cell (p := ⟨b, _, none⟩) hl).trans s1
         have u2 : wc.cell? ⟨b, o + x * 3 + 1, none⟩ = some (.int .i64 k3) := (hBc.cell (p := ⟨b, _, none⟩) hl).trans s2
         have u3 : wc.cell? ⟨b, o + x * 3 + 2, none⟩ = some (.int .i64 i3) := (hBc.cell (p := ⟨b, _, none⟩) hl).trans s3
         have E3 := Lib.hid e3
         clear s1 s2 s3 e3
         go_upto_region 9 with fail
         refine wp_named (fun V => ∃ g, wc.heap.size = g ∧ Blk V g [.int .i64 f3, .int .i64 k3, .int .i64 i3] ∧ Kept [] wc V) ⟨_, rfl, Blk.new _ _ _ _ rfl, (Kept.refl _ _).alloc _⟩ ?_
         rintro V ⟨g, eg, Bg, hkV⟩
         rw [eg]
         have hkw : Kept [] W V := keptTrans hkc hkV
         have hBV := hkw.below hB hB.size (by simp)
         have ⟨M0, D0, G0'⟩ := hkV.blk (by simp) BC0
         have ⟨M1, D1, G1'⟩ := hkV.blk (by simp) BC1
         have ⟨M5, D5, G5'⟩ := hkV.blk (by simp) B5
         have ⟨M6, D6, G6'⟩ := hkV.blk (by simp) B6
         have ⟨Mg, Dg, Gg⟩ := Bg
         have HNV := Lib.hid (HN.out.later hBV)
         have HEV := Lib.hid (HE.out.later hBV)
         clear C0' C1' C5 C6 F0' F1' F5 F6 u1 u2 u3 eg
         have HF3 : Hid (Sp.fitsB ns es ⟨ea, eb, ek, (x : Int)⟩ = (if (ek = 3 ∧ k1 ≠ 3) ∨ (ek = 4 ∧ k1 ≠ 4) then false else decide (k3 = 2) && Sp.callsB ns es x f1 && decide (f2 = f3) && decide (k2 ≠ 1))) := by
           show Sp.fitsB ns es ⟨ea, eb, ek, (x : Int)⟩ = _
           rw [HF.out]
           unfold Sp.fitsN
           rw [Int.toNat_natCast, E3.out, if_neg (by omega), if_neg h2]
         clear HF
         have H1 := Lib.hid h1
         have H5 := Lib.hid h5
         have H2 := Lib.hid h2
         clear h1 h5 h2
         by_cases hbad : (ek = 3 ∧ k1 ≠ 3) ∨ (ek = 4 ∧ k1 ≠ 4)
         · have HV : Hid (Sp.fitsB ns es ⟨ea, eb, ek, (x : Int)⟩ = false) := Lib.hid (by rw [HF3.out, if_pos hbad])
           rcases hbad with ⟨rfl, hb1⟩ | ⟨rfl, hb1⟩
           · have v1 : (k1 != 3) = true := by simpa using hb1
             go_wp2_with fail
             all_goals
               go_ret
               exact ⟨ret_bool HV.out.symm, hBV⟩
           · have v1 : (k1 != 4) = true := by simpa using hb1
             go_wp2_with fail
             all_goals
               go_ret
               exact ⟨ret_bool HV.out.symm, hBV⟩
         · have HV : Hid (Sp.fitsB ns es ⟨ea, eb, ek, (x : Int)⟩ = (decide (k3 = 2) && Sp.callsB ns es x f1 && decide (f2 = f3) && decide (k2 ≠ 1))) := Lib.hid (by rw [HF3.out, if_neg hbad])
           have hcase : ((ek == 3) = true ∧ (k1 != 3) = false ∧ (ek == 4) = false) ∨ ((ek == 3) = false ∧ (ek == 4) = true ∧ (k1 != 4) = false) ∨ ((ek == 3) = false ∧ (ek == 4) = false) := by
             by_cases e9 : ek = 3
             · left; refine ⟨by simpa using e9, ?_, ?_⟩
               · have : k1 = 3 := by omega
                 simp [this]
               · simp; omega
             · by_cases e8 : ek = 4
               · right; left; refine ⟨by simpa using e9, by simpa using e8, ?_⟩
                 have : k1 = 4 := by omega
                 simp [this]
               · right; right; exact ⟨by simpa using e9, by simpa using e8⟩
           clear hbad HF3
           by_cases z2 : k3 = 2
           · have z2' : (k3 == 2) = true := by simpa using z2
             have Z2 := Lib.hid z2
             clear z2
             rcases hcase with ⟨v1, v2, v3⟩ | ⟨v1, v2, v3⟩ | ⟨v1, v2⟩
             all_goals
               go_wp2_with fail
               refine (calls_any _ _ _ _ _ _ _ _ _ ns es _ HNV.out HEV.out hs hs2).mono ?_
               rintro e w5 ⟨rfl, hb5⟩
               have hk5 : Kept [] V w5 := (Kept.refl _ _).call hb5
               have ⟨hc5, hf5, hg5⟩ := hk5.rules
               have hB5 := below_step hBV.size hBV hb5
               by_cases z3 : Sp.callsB ns es x f1 = true
               · rw [z3]
                 have Z3 := Lib.hid z3
                 clear z3
                 by_cases z4 : f2 = f3
                 · have z4' : (f2 == f3) = true := by simpa using z4
                   have Z4 := Lib.hid z4
                   clear z4
                   by_cases z5 : k2 = 1
                   · have z5' : (k2 != 1) = false := by simp [z5]
                     have HV5 : Hid (Sp.fitsB ns es ⟨ea, eb, ek, (x : Int)⟩ = false) := Lib.hid (by rw [HV.out]; simp [z5])
                     clear z5
                     go_wp2_with fail
                     go_ret
                     exact ⟨ret_bool HV5.out.symm, hB5⟩
                   · have z5' : (k2 != 1) = true := by simpa using z5
                     have HV5 : Hid (Sp.fitsB ns es ⟨ea, eb, ek, (x : Int)⟩ = true) := Lib.hid (by rw [HV.out, Z2.out, Z3.out, Z4.out]; simp [z5])
                     clear z5
                     go_wp2_with fail
                     go_ret
                     exact ⟨ret_bool HV5.out.symm, hB5⟩
                 · have z4' : (f2 == f3) = false := by simpa using z4
                   have HV5 : Hid (Sp.fitsB ns es ⟨ea, eb, ek, (x : Int)⟩ = false) := Lib.hid (by rw [HV.out]; simp [z4])
                   clear z4
                   go_wp2_with fail
                   go_ret
                   exact ⟨ret_bool HV5.out.symm, hB5⟩
               · rw [Bool.not_eq_true] at z3
                 have HV5 : Hid (Sp.fitsB ns es ⟨ea, eb, ek, (x : Int)⟩ = false) := Lib.hid (by rw [HV.out, z3]; simp)
                 rw [z3]
                 clear z3
                 go_wp2_with fail
                 go_ret
                 exact ⟨ret_bool HV5.out.symm, hB5⟩
           · have z2' : (k3 == 2) = false := by simpa using z2
             have HV5 : Hid (Sp.fitsB ns es ⟨ea, eb, ek, (x : Int)⟩ = false) := Lib.hid (by rw [HV.out]; simp [z2])
             clear z2
             rcases hcase with ⟨v1, v2, v3⟩ | ⟨v1, v2, v3⟩ | ⟨v1, v2⟩
             all_goals
               go_wp2_with fail
               go_ret
               exact ⟨ret_bool HV5.out.symm, hBV⟩
end Go.Proofs.YtincpmdldpakkaaGreatDoor
