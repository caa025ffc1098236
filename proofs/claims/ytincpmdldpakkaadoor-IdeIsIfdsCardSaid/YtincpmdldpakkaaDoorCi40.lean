/- Texts: Th. -/
import Derived.Test.YtincpmdldpakkaaDoorCi34
import Derived.Test.YtincpmdldpakkaaDoorCi35
import Derived.Test.YtincpmdldpakkaaDoorCi18
import Derived.Test.YtincpmdldpakkaaDoorCi39
namespace Go.Df
open Go.RowKit
theorem Rd.newL9 (w : World) (cs : List Value) (t : TypeId) (k b : Nat) (hb : b = w.heap.size) (hk : cs.length = k) : Rd (w.alloc (.cells cs.toArray t)) k (some ⟨b, 0, none⟩) 1 cs := by
 subst hb
 refine ⟨by rw [hk, Nat.one_mul], fun _ => ⟨_, _, rfl, by simp, fun j _ => ?_⟩⟩
 rw [World.cell?_alloc_new, Nat.zero_add]; simp
theorem If.Flw.row {w0 w : World} {A : Option Addr} {n : Nat} {ls : List (List If.Pr)} (h : If.Flw w0 A n ls) (hb : Below w0.heap.size w0 w) {j : Nat} (hj : j < n) :
   ∃ b o Ai ni ci, A = some ⟨b, o, none⟩ ∧ b < w0.heap.size ∧ w.cell? ⟨b, o + j, none⟩ = some (.slice Ai ni ci) ∧ If.Prs w0 Ai ni (If.gf ls j) := by
 obtain ⟨b, o, rfl, hl, hc⟩ := h.2 (by omega)
 obtain ⟨Ai, ni, ci, h1, -, h2⟩ := hc j hj
 exact ⟨b, o, Ai, ni, ci, rfl, hl, (hb.cell (p := ⟨b, _, none⟩) hl).trans h1, h2⟩
end Go.Df
namespace Go.Proofs.YtincpmdldpakkaaDoor
open Go.RowKit Go.Df Go.Df.Iv Go.Df.Sp
attribute [local go_sem ↓] Go.wp_at_zero Go.wp_at_succ
theorem xpair_info9 : (Tryd.prog.info? 52).map (fun i => (i.zero, i.size, i.bytes)) = some (some (.agg #[.int .i64 0, .int .i64 0, .int .i64 0, .int .i64 0, .int .i64 0]), 5, 40) := by kernel_rfl
theorem xrow_info9 : (Tryd.prog.info? 44).map (fun i => (i.zero, i.size, i.bytes)) = some (some (.slice none 0 0), 1, 24) := by kernel_rfl
theorem vseed_info9 : (Tryd.prog.info? 58).map (fun i => (i.zero, i.size, i.bytes)) = some (some (.agg #[.int .i64 0, .int .i64 0, .int .i64 0, .int .i64 0]), 4, 32) := by kernel_rfl
set_option maxRecDepth 100000 in
set_option maxHeartbeats 20000000 in
theorem ideIsIfds_any {q : If.Pb} (A1 A2 A3 A4 : Option Addr) (n1 c1 n2 c2 n3 c3 n4 c4 : Nat) (w : World) (hG : Gr w A1 n1 A2 n2 q.ns q.es) (hF : If.Flw w A3 n3 q.fl) (hS : If.Sds w A4 n4 q.sd) (hn3 : n3 ≤ 9223372036854775807) (hn4 : n4 ≤ 9223372036854775807) (hrl : ∀ i, (If.gf q.fl i).length ≤ 9223372036854775807) (hgv : Gv w) :
   Calls Tryd.prog 5 #[.agg #[.slice A1 n1 c1, .slice A2 n2 c2, .int .i64 q.mn, .int .i64 q.F, .slice A3 n3 c3, .slice A4 n4 c4]] w fun e w' => e = .returned (.bool true) ∧ Below w.heap.size w w' := by
 obtain ⟨i0, hi, hz0, hz1, hz2⟩ := info_parts xpair_info9
 obtain ⟨j0, ji, jz0, jz1, jz2⟩ := info_parts xrow_info9
 obtain ⟨k0, ki, kz0, kz1, kz2⟩ := info_parts vseed_info9
 have HG := Lib.hid hG
 have HF := Lib.hid hF
 have HS := Lib.hid hS
 have HRL := Lib.hid hrl
 have HGV := Lib.hid hgv
 obtain ⟨pe, hpe⟩ : ∃ pe, If.pbErr q = pe := ⟨_, rfl⟩
 have HPE := Lib.hid hpe
 clear hG hF hS hgv hpe hrl
 go_enter Tryd.func5, Tryd.ntmps5
 go_upto_region 1 with fail
 refine wp_named (fun W => ∃ b0, w.heap.size = b0 ∧ Blk W b0 [.slice A1 n1 c1, .slice A2 n2 c2, .int .i64 q.mn, .int .i64 q.F, .slice A3 n3 c3, .slice A4 n4 c4] ∧ Below w.heap.size w W) ⟨_, rfl, ?_, ?_⟩ ?_
 · exact Blk.new _ _ _ _ (by first | rfl | simp)
 · go_grown
 rintro W ⟨b0, e0, B0, hB⟩
 rw [e0]
 have G0 : w.heap.size ≤ b0 := by omega
 clear e0
 have ⟨L0, C0, F0⟩ := B0
 have HB0 := Lib.hid B0
 have hkw1 : Kept [] w W := (Kept.refl _ _).call hB
 go_upto_region 2 with fail
 refine wp_named (fun V => ∃ g, W.heap.size = g ∧ Blk V g [.slice A1 n1 c1, .slice A2 n2 c2, .int .i64 q.mn, .int .i64 q.F, .slice none 0 0, .slice none 0 0] ∧ Kept [] W V) ⟨_, rfl, Blk.new _ _ _ _ (by simp), (Kept.refl _ _).alloc _⟩ ?_
 rintro V ⟨g, eg, hbq, hkV⟩
 rw [eg]
 have HBGV := Lib.hid hbq
 have hb0q : b0 ≠ g := by have := HB0.out.1; omega
 have HB0V := Lib.hid (hkV.blk (by simp) HB0.out)
 have HBW : Hid (Below w.heap.size w V) := Lib.hid (keptTrans hkw1 hkV).toBelow
 obtain ⟨base, hbase⟩ : ∃ base, V.heap.size = base := ⟨_, rfl⟩
 have hqb : g < base := by have := hbq.1; omega
 have h0b : b0 < base := by have := HB0V.out.1; omega
 have hwb : w.heap.size ≤ base := by have := HBW.out.size; omega
 have hwq : w.heap.size ≤ g := by have := hkw1.size; omega
 have HBASE := Lib.hid hbase
 clear hbq hkV eg hbase C0 F0
 go_wp2_with fail
 go_loopw [4] (fun s wr => ∃ (i : Nat) (R : Nat → Option Addr × Nat × Nat) (A : Option Addr) (c : Nat), i ≤ n3 ∧ i ≤ 80 ∧ s = .int .i64 i ∧ Hid (Blk wr g [.slice A1 n1 c1, .slice A2 n2 c2, .int .i64 q.mn, .int .i64 q.F, .slice A i c, .slice none 0 0]) ∧ Hid (wr.ownsRow base 44 1 (.slice A i c) i (If.rowsP R i)) ∧ Hid (RwX base 52 R (fun x => ((If.gf q.fl x).take 30).map xOf) i wr) ∧ Hid (Kept [g] V wr)) (fun s _ => n3 - (intOf s).toNat)
 case atStart => exact ⟨0, fun _ => (none, 0, 0), none, 0, Nat.zero_le _, Nat.zero_le _, rfl, HBGV, Lib.hid (World.ownsRow_nil _ _ _ _), (fun x hx => absurd hx (Nat.not_lt_zero x)), Lib.hid (Kept.refl _ _)⟩
 case round =>
 obtain ⟨i, R, A, c, hi9, hi80, rfl, HBGR, OWR, HRP, HKR⟩ := hrel
 have hzr : base ≤ wr.heap.size := by have := HKR.out.size; have := HBASE.out; omega
 have HBR : Hid (Below w.heap.size w wr) := Lib.hid (Kept.below (X := [g]) HBW.out HBW.out.size (fun y hy => by simp at hy; omega) HKR.out)
 have HB0R := Lib.hid (HKR.out.blk (b := b0) (by simpa using hb0q) HB0V.out)
 have ⟨L0R, C0R, F0R⟩ := HB0R.out
 obtain ⟨bb, hbb⟩ : ∃ bb, decide (i < n3 ∧ i < 80) = bb := ⟨_, rfl⟩
 have HBB := Lib.hid hbb
 clear hbb
 go_upto_region 3 with fail
 go_cut [28] (fun s wx => s = .bool bb ∧ wr = wx)
 case first =>
   by_cases h1 : i < n3
   · have d1 : (i : Int) < (n3 : Int) := by omega
     by_cases h2 : i < 80
     · have d2 : (i : Int) < 80 := by omega
       obtain rfl : bb = true := by rw [← HBB.out]; exact decide_eq_true ⟨h1, h2⟩
       go_wp2_with fail
       go_meet
       exact ⟨rfl, rfl⟩
     · have d2 : decide ((i : Int) < 80) = false := decide_eq_false (by omega)
       obtain rfl : bb = false := by rw [← HBB.out]; exact decide_eq_false (by omega)
       go_wp2_with fail
       go_meet
       exact ⟨rfl, rfl⟩
   · have d1 : decide ((i : Int) < (n3 : Int)) = false := decide_eq_false (by omega)
     obtain rfl : bb = false := by rw [← HBB.out]; exact decide_eq_false (by omega)
     go_wp2_with fail
     go_meet
     exact ⟨rfl, rfl⟩
 case rest =>
 obtain ⟨rfl, ew⟩ := hcut
 subst ew
 cases bb with
 | false =>
   have him : i = n3 ∨ i = 80 := by
     have h9 : ¬ (i < n3 ∧ i < 80) := of_decide_eq_false HBB.out
     omega
   have HLS : Hid (q.sd.length = n4) := Lib.hid HS.out.1
   have HLF : Hid (q.fl.length = n3) := Lib.hid HF.out.1
   obtain ⟨bs, hbs⟩ : ∃ bs, wr.heap.size = bs := ⟨_, rfl⟩
   have HBS := Lib.hid hbs
   have hqs : g < bs := by omega
   have h0s : b0 < bs := by omega
   have HIM := Lib.hid him
   clear hbs him
   go_wp2_with fail
   clear L0R C0R F0R
   go_loopw [7] (fun s wz => ∃ (k : Nat) (A' : Option Addr) (c' : Nat), k ≤ n4 ∧ k ≤ 30 ∧ s = .int .i64 k ∧ Hid (Blk wz g [.slice A1 n1 c1, .slice A2 n2 c2, .int .i64 q.mn, .int .i64 q.F, .slice A i c, .slice A' k c']) ∧ Hid (wz.ownsRow bs 58 4 (.slice A' k c') k ((q.sd.take k).flatMap vc)) ∧ Hid (Kept [g] wr wz)) (fun s _ => n4 - (intOf s).toNat)
   case atStart => exact ⟨0, none, 0, Nat.zero_le _, Nat.zero_le _, rfl, HBGR, Lib.hid (World.ownsRow_nil _ _ _ _), Lib.hid (Kept.refl _ _)⟩
   case round =>
   rename World => wz
   obtain ⟨k, A', c', hk9, hk30, rfl, HBGZ, OWN, HKZ⟩ := hrel
   have HB0Z := Lib.hid (HKZ.out.blk (b := b0) (by simpa using hb0q) HB0R.out)
   have ⟨L0Z, C0Z, F0Z⟩ := HB0Z.out
   have hwz : bs ≤ wz.heap.size := by have := HKZ.out.size; have := HBS.out; omega
   have hbz : Hid (Below w.heap.size w wz) := Lib.hid (Kept.below (X := [g]) HBR.out HBR.out.size (fun y hy => by simp at hy; omega) HKZ.out)
   have ⟨LqZ, CqZ, FqZ⟩ := HBGZ.out
   obtain ⟨bd, hbd⟩ : ∃ bd, decide (k < n4 ∧ k < 30) = bd := ⟨_, rfl⟩
   have HBD := Lib.hid hbd
   clear hbd
   go_upto_region 12 with fail
   go_cut [82] (fun s wx => s = .bool bd ∧ wz = wx)
   case first =>
     by_cases h1 : k < n4
     · have d1 : (k : Int) < (n4 : Int) := by omega
       by_cases h2 : k < 30
       · have d2 : (k : Int) < 30 := by omega
         obtain rfl : bd = true := by rw [← HBD.out]; exact decide_eq_true ⟨h1, h2⟩
         go_wp2_with fail
         go_meet
         exact ⟨rfl, rfl⟩
       · have d2 : decide ((k : Int) < 30) = false := decide_eq_false (by omega)
         obtain rfl : bd = false := by rw [← HBD.out]; exact decide_eq_false (by omega)
         go_wp2_with fail
         go_meet
         exact ⟨rfl, rfl⟩
     · have d1 : decide ((k : Int) < (n4 : Int)) = false := decide_eq_false (by omega)
       obtain rfl : bd = false := by rw [← HBD.out]; exact decide_eq_false (by omega)
       go_wp2_with fail
       go_meet
       exact ⟨rfl, rfl⟩
   case rest =>
   obtain ⟨rfl, ew⟩ := hcut
   subst ew
   cases bd with
   | true =>
     obtain ⟨hltk, hltk30⟩ : k < n4 ∧ k < 30 := of_decide_eq_true HBD.out
     obtain ⟨b4, o4, e4, hl4, hc4⟩ := HS.out.2 (by omega)
     subst e4
     obtain ⟨sn, sf, es⟩ : ∃ sn sf, If.gd q.sd k = ⟨sn, sf⟩ := ⟨_, _, rfl⟩
     have h5 := hc4 k hltk
     rw [es] at h5
     obtain ⟨q0, q1⟩ := h5
     have x0 := (hbz.out.cell (p := ⟨b4, _, none⟩) hl4).trans q0
     have x1 := (hbz.out.cell (p := ⟨b4, _, none⟩) hl4).trans q1
     have hk1 : (k : Int) < (n4 : Int) := by omega
     have hlz : b4 < wz.heap.size := Nat.lt_of_lt_of_le hl4 hbz.out.size
     have HAP : Hid ((q.sd.take k).flatMap vc ++ [.int .i64 sn, .int .i64 sf, .int .i64 2, .int .i64 0] = (q.sd.take (k + 1)).flatMap vc) := Lib.hid (by
       rw [If.take_gd _ (by rw [HLS.out]; exact hltk), es]
       exact flat_snoc vc _ ⟨sn, sf⟩)
     have xa : b0 ∉ (Value.slice A' k c').ownBlock.toList := fun hm => by have := own_ge OWN.out (by simpa using hm); omega
     have xb : g ∉ (Value.slice A' k c').ownBlock.toList := fun hm => by have := own_ge OWN.out (by simpa using hm); omega
     have xc9 : b4 ∉ (Value.slice A' k c').ownBlock.toList := fun hm => by have := own_ge OWN.out (by simpa using hm); omega
     clear q0 q1 hc4 es
     go_upto_region 14 with fail
     refine wp_region_E 19 (fun w' => SXt (Value.slice A' k c').ownBlock.toList b0 g b4 wz w') (by kernel_rfl) (by (first | (with_reducible assumption) | exact SXt.of (keptNil (Kept.refl _ _).drew) L0Z LqZ hlz xa xb xc9 | exact SXt.of (hHeld.1.alloc _) L0Z LqZ hlz xa xb xc9 | exact SXt.of HKA.out L0Z LqZ hlz xa xb xc9)) (fun hHeld => ?_)
     refine WE_tk 0 ?_
     refine WE_tk 1 ?_
     refine WE_tk 2 ?_
     refine WE_tk 3 ?_
     refine WE_tk 4 ?_
     refine WE_tk 5 ?_
     refine WE_tk 6 ?_
     refine WE_tk 7 ?_
     refine WE_tk 8 ?_
     refine WE_tk 9 ?_
     refine WE_tk 10 ?_
     refine WE_tk 11 ?_
     refine WE_tk 12 ?_
     refine WE_tk 13 ?_
     refine WE_tk 14 ?_
     refine WE_tk 15 ?_
     refine WE_step 16 rfl (by kernel_rfl) (fun K hK => ?_)
     go_simp
     refine hK.out _ _ ?_ (fun hHeld => ?_)
     · (first | (with_reducible assumption) | exact SXt.of (keptNil (Kept.refl _ _).drew) L0Z LqZ hlz xa xb xc9 | exact SXt.of (hHeld.1.alloc _) L0Z LqZ hlz xa xb xc9 | exact SXt.of HKA.out L0Z LqZ hlz xa xb xc9)
     clear hK K
     try simp only [Act.put, List.setIfInBounds_toArray, List.set_cons_zero, List.set_cons_succ]
     refine WE_step 17 rfl (by kernel_rfl) (fun K hK => ?_)
     (refine step_append_rd _ rfl _ _ 27 rfl bs 58 k0 (.agg #[.int .i64 0, .int .i64 0, .int .i64 0, .int .i64 0]) 4 32 Tryd.underlying27 ki kz0 kz1 kz2 rfl (by decide) (.slice A' k c') k _ rfl (own_keptT (X := []) OWN.out (((Kept.refl [] wz).drew).alloc _) (by simp)) (some ⟨wz.heap.size, 0, none⟩) 1 1 [.int .i64 sn, .int .i64 sf, .int .i64 2, .int .i64 0] rfl (Rd.newL9 _ _ _ _ _ rfl rfl) (fun h => by cases h) (by intro u hu; simp at hu; rcases hu with rfl | rfl | rfl | rfl <;> rfl) (k + 1) rfl _ HAP.out (by unfold maxLen; omega) (by omega) (by simp; omega) ?_; intro A8 c8 w8 hown8 hk8 hat8; have hkA : Kept (Value.slice A' k c').ownBlock.toList wz w8 := (keptNil (((Kept.refl [] wz).drew).alloc _)).next hk8 (fun y hy => Or.inl hy); have fq8 := fun o => (hkA.frozen g o LqZ xb).trans (FqZ o); have lq8 : g < w8.heap.size := Nat.lt_of_lt_of_le LqZ hkA.size; have HO8 := Lib.hid hown8; have HKA := Lib.hid hkA; clear hown8 hk8 hat8 hkA)
     refine hK.out _ _ ?_ (fun hHeld => ?_)
     · (first | (with_reducible assumption) | exact SXt.of (keptNil (Kept.refl _ _).drew) L0Z LqZ hlz xa xb xc9 | exact SXt.of (hHeld.1.alloc _) L0Z LqZ hlz xa xb xc9 | exact SXt.of HKA.out L0Z LqZ hlz xa xb xc9)
     clear hK K
     try simp only [Act.put, List.setIfInBounds_toArray, List.set_cons_zero, List.set_cons_succ]
     refine WE_tk 18 ?_
     refine WE_last rfl (by kernel_rfl) (fun K hK => ?_)
     go_simp
     refine hK.out _ _ ?_
     clear hK K
     have HB8 := Lib.hid (HKA.out.blk xb HBGZ.out)
     have HK8 : Hid (Kept [g] wr w8) := Lib.hid (HKZ.out.next HKA.out (fun y hy => Or.inr (by have := own_ge OWN.out (by simpa using hy); have := HBS.out; omega)))
     refine act_namedT (fun Z => Blk Z g [.slice A1 n1 c1, .slice A2 n2 c2, .int .i64 q.mn, .int .i64 q.F, .slice A i c, .slice A8 (k + 1) c8] ∧ Z.ownsRow bs 58 4 (.slice A8 (k + 1) c8) (k + 1) ((q.sd.take (k + 1)).flatMap vc) ∧ Kept [g] wr Z) ⟨HB8.out.set 5 _, own_keptT (X := [g]) HO8.out ((Kept.refl [g] w8).set g 5 _ (.inl (by simp))) (fun x hx => by have := own_ge HO8.out hx; simp; omega), HK8.out.set g 5 _ (.inl (by simp))⟩ ?_
     rintro Z ⟨hbZ, hoZ, hkZ⟩
     have HBZ := Lib.hid hbZ
     have HOZ := Lib.hid hoZ
     have HKZ2 := Lib.hid hkZ
     clear hbZ hoZ hkZ
     go_wp2_with fail
     exact ⟨⟨k + 1, A8, c8, by omega, by omega, by go_num, HBZ, HOZ, HKZ2⟩, by simp [intOf]; omega⟩
   | false =>
   have hkm : k = n4 ∨ k = 30 := by
     have h9 : ¬ (k < n4 ∧ k < 30) := of_decide_eq_false HBD.out
     omega
   have HKM := Lib.hid hkm
   clear hkm
   have HFZ : Hid (Fls wz A i ((List.range i).map fun x => ((If.gf q.fl x).take 30).map xOf) ∧ ∀ b o x A' m c', A = some ⟨b, o, none⟩ → x < i → wz.cell? ⟨b, o + x, none⟩ = some (.slice A' m c') → m ≤ c') := Lib.hid ((HRP.out.kept HKZ.out (fun b _ hb => by simp; omega)).fls (own_keptT OWR.out HKZ.out (fun x hx => by have := own_ge OWR.out hx; simp; omega)))
   have HSZ : Hid (Vss wz A' k ((q.sd.take k).map vOf)) := Lib.hid (vss_own OWN.out (by rw [List.length_take, HLS.out]; omega))
   go_wp2_with fail
   refine (small33r_any A1 A2 A A' n1 c1 n2 c2 i c k c' q.mn q.F _ _ HFZ.out.1).mono ?_
   rintro e w1 ⟨b, rfl, hsm, hb1⟩
   have hkz1 : Kept [] wz w1 := (Kept.refl _ _).call hb1
   have HBW1 : Hid (Below w.heap.size w w1) := Lib.hid (hkz1.below hbz.out hbz.out.size (by simp))
   cases b with
   | false =>
     go_wp2_with fail
     go_ret
     exact ⟨rfl, HBW1.out⟩
   | true =>
   obtain ⟨s1, s2, s3, s4, s5⟩ := hsm rfl
   obtain rfl : i = n3 := by have := HIM.out; omega
   obtain rfl : k = n4 := by have := HKM.out; omega
   have hlen : ∀ x, x < i → (If.gf q.fl x).length ≤ 30 := fun x hx => by
     have h9 := s5 x hx
     have e : Sp.gl ((List.range i).map fun x => ((If.gf q.fl x).take 30).map xOf) x = ((If.gf q.fl x).take 30).map xOf := by simp [Sp.gl, hx]
     rw [e, List.length_map, List.length_take] at h9
     omega
   have HSM : Hid (n1 ≤ 36 ∧ q.F ≤ 6) := ⟨s1, s4⟩
   have HFV : Hid (Fls wz A i (vP q).fl) := Lib.hid (by rw [← vP_rows q HLF.out hlen]; exact HFZ.out.1)
   have HSV : Hid (Vss wz A' k (vP q).sd) := Lib.hid (by
     have h9 := HSZ.out
     rw [List.take_of_length_le (by rw [HLS.out]; omega)] at h9
     exact h9)
   have HLZ : Hid (Lies (vP q) A1 A2 A A' n1 n2 i k wz) := Lib.hid ⟨HG.out.nd.later hbz.out, HG.out.ed.later hbz.out, HFV.out, HSV.out, HFZ.out.2, HG.out.wn, HG.out.we, vP_fit q, by omega⟩
   have B01 := Lib.hid (hkz1.blk (by simp) HB0Z.out)
   have B11 := Lib.hid (hkz1.blk (by simp) HBGZ.out)
   have ⟨L01, C01, F01⟩ := B01.out
   have hk6 : k ≤ 1000000 := by omega
   have hi6 : i ≤ 1000000 := by omega
   clear hsm s5 hlen s1 s2 s4 C0Z F0Z L0Z CqZ FqZ LqZ
   go_wp2_with fail
   refine (rifdsck_any A1 A2 A3 A4 n1 c1 n2 c2 i c3 k c4 q.mn q.F q.ns q.es q.fl q.sd _ (HG.out.nd.later HBW1.out) (HG.out.ed.later HBW1.out) (HF.out.later HBW1.out) (HS.out.later HBW1.out) (by omega) HG.out.wn HG.out.we).mono ?_
   have hpe9 : If.pbErr ⟨q.ns, q.es, q.mn, q.F, q.fl, q.sd⟩ = pe := HPE.out
   rw [hpe9]
   clear hpe9
   rintro e w2 ⟨rfl, hb2⟩
   have hk12 : Kept [] w1 w2 := (Kept.refl _ _).call hb2
   have HBW2 : Hid (Below w.heap.size w w2) := Lib.hid (hk12.below HBW1.out HBW1.out.size (by simp))
   by_cases h0 : pe = 0
   case neg =>
     have h0' : (pe != 0) = true := by simpa using h0
     go_wp2_with fail
     go_ret
     exact ⟨rfl, HBW2.out⟩
   subst h0
   have HOK := Lib.hid (If.ok_of HPE.out)
   have HVE := Lib.hid (vP_err HPE.out)
   have HMU : Hid (mu0 (vP q) ≤ 1000000) := mu_small (by have h1 := HSM.out.1; have h2 := HG.out.nd.1; show q.ns.length ≤ 36; omega) HSM.out.2
   have HN1 : Hid (n1 = q.ns.length ∧ n1 ≤ 36) := ⟨HG.out.nd.1.symm, HSM.out.1⟩
   have HMM : Hid (q.mn = (q.mn.toNat : Int) ∧ q.F = (q.F.toNat : Int)) := ⟨by have := If.main_in (If.sup_parts HOK.out.sup).2.2.1; omega, by have := HOK.out.f1; omega⟩
   have HPB : Hid (If.PbW q n1 q.F.toNat q.mn.toNat A1 A2 A3 A4 n2 i k w) := Lib.hid ⟨HG.out.nd, HG.out.ed, HF.out, HS.out, HMM.out.2, HMM.out.1, HOK.out, hk6⟩
   have hkz2 : Kept [] wz w2 := keptTrans hkz1 hk12
   have B02 := Lib.hid (hkz2.blk (by simp) HB0Z.out)
   have B12 := Lib.hid (hkz2.blk (by simp) HBGZ.out)
   have ⟨L12, C12, F12⟩ := B12.out
   clear C01 F01 L01
   go_upto_region 18 with (go_at_call 11; refine (psolve_any (p := vP q) A1 A2 A A' n1 c1 n2 c2 i c k c' _ (HLZ.out.later hkz2.toBelow) (HGV.out.later HBW2.out) (fun _ => HMU.out)).mono ?_; rw [HVE.out]; rintro e w3 h3; rcases h3 with ⟨-, go, cc, rw3, rc3, S, rfl, hV3, hI3, hb3⟩ | ⟨h9, -⟩; rotate_left; (· exact absurd rfl h9); have HV3 := Lib.hid hV3; have HI3 := Lib.hid hI3; clear hV3 hI3)
   refine wp_named (fun V3 => ∃ g8, w3.heap.size = g8 ∧ Blk V3 g8 [.slice (some ⟨go, 0, none⟩) n1 cc] ∧ Kept [] w3 V3) ⟨_, rfl, Blk.new _ _ _ _ rfl, (Kept.refl _ _).alloc _⟩ ?_
   rintro V3 ⟨g8, eg8, Bg8, hkV3⟩
   rw [eg8]
   have hk23 : Kept [] w2 V3 := ((Kept.refl [] w2).call hb3).next hkV3 (by simp)
   have HBW3 : Hid (Below w.heap.size w V3) := Lib.hid (hk23.below HBW2.out HBW2.out.size (by simp))
   have B03 := Lib.hid (hk23.blk (by simp) B02.out)
   have HBG8 := Lib.hid Bg8
   have HV33 := Lib.hid (HV3.out.keep hkV3)
   have ⟨L03, C03, F03⟩ := B03.out
   have HGV3 := Lib.hid (HG.out.later HBW3.out)
   have HPB3 := Lib.hid (HPB.out.later HBW3.out)
   clear C12 F12 L12 eg8 Bg8 hkV3
   go_upto_region 19 with (go_at_call 15; rw [HMM.out.1, HMM.out.2]; refine (rsolve_ok A1 A2 A3 A4 n1 c1 n2 c2 i c3 k c4 q.mn.toNat q.F.toNat _ HGV3.out HPB3.out).mono ?_; rintro e w4 ⟨T1, d1, T2, d2, rfl, hr4, hf4, hb4⟩; have HR4 := Lib.hid hr4; have HF4 := Lib.hid hf4; clear hr4 hf4)
   refine wp_named (fun V4 => ∃ gt, w4.heap.size = gt ∧ Blk V4 gt [.slice T1 n1 d1, .slice T2 n1 d2] ∧ Kept [] w4 V4) ⟨_, rfl, Blk.new _ _ _ _ rfl, (Kept.refl _ _).alloc _⟩ ?_
   rintro V4 ⟨gt, egt, Bgt, hkV4⟩
   rw [egt]
   have hk34 : Kept [] V3 V4 := ((Kept.refl [] V3).call hb4).next hkV4 (by simp)
   have HBW4 : Hid (Below w.heap.size w V4) := Lib.hid (hk34.below HBW3.out HBW3.out.size (by simp))
   have B04 := Lib.hid (hk34.blk (by simp) B03.out)
   have HBG84 := Lib.hid (hk34.blk (by simp) HBG8.out)
   have HBGT := Lib.hid Bgt
   have HV4 := Lib.hid (HV33.out.keep hk34)
   have HR4V := Lib.hid (HR4.out.later hkV4.toBelow)
   have HF4V := Lib.hid (HF4.out.later hkV4.toBelow)
   have ⟨L04, C04, F04⟩ := B04.out
   have ⟨L84, C84, F84⟩ := HBG84.out
   obtain ⟨f, hf⟩ : ∃ f, q.F.toNat = f := ⟨_, rfl⟩
   have HV4f : Hid (Vw n1 f V4 go rw3 rc3 S) := Lib.hid (by have h9 := HV4.out; rw [show (vP q).F.toNat = f from hf] at h9; exact h9)
   have HEF := Lib.hid hf
   have hf6 : f ≤ 6 := by have := HSM.out.2; omega
   have hn36 : n1 ≤ 36 := HN1.out.2
   clear C03 F03 L03 egt Bgt hkV4 hf
   go_wp2_with fail
   clear C04 F04 L04 C84 F84 L84
   go_loopw [12] (fun s wq => ∃ n : Nat, n ≤ n1 ∧ s = .int .i64 n ∧ Hid (Kept [] V4 wq)) (fun s _ => n1 - (intOf s).toNat)
   case atStart => exact ⟨0, Nat.zero_le _, rfl, Lib.hid (Kept.refl _ _)⟩
   case round =>
   rename World => wq
   obtain ⟨n, hn9, rfl, HKQ⟩ := hrel
   have ⟨L8q, C8q, F8q⟩ := HKQ.out.blk (by simp) HBG84.out
   have HBQ : Hid (Below w.heap.size w wq) := Lib.hid (HKQ.out.below HBW4.out HBW4.out.size (by simp))
   by_cases hltn : n < n1
   case neg =>
     obtain rfl : n = n1 := by omega
     go_wp2_with (go_at_call 9; refine (knows33_any _ (HGV.out.later HBQ.out)).mono ?_; rintro e w5 ⟨rfl, hb5⟩)
     go_ret
     exact ⟨rfl, ((Kept.refl [] wq).call hb5).below HBQ.out HBQ.out.size (by simp)⟩
   have hn1' : (n : Int) < (n1 : Int) := by omega
   go_wp2_with fail
   clear L8q C8q F8q
   go_loopw [13] (fun s wy => ∃ d : Nat, d ≤ f ∧ s = .int .i64 d ∧ Hid (Kept [] V4 wy)) (fun s _ => f - (intOf s).toNat)
   case atStart => exact ⟨0, Nat.zero_le _, rfl, HKQ⟩
   case round =>
   rename World => wy
   obtain ⟨d, hd9, rfl, HKY⟩ := hrel
   have ⟨L8y, C8y, F8y⟩ := HKY.out.blk (by simp) HBG84.out
   have VY := Lib.hid (HV4f.out.keep HKY.out)
   have r1 := VY.out.row n hltn
   have gl1 := VY.out.glt
   by_cases hltd : d < f
   case neg =>
     obtain rfl : d = f := by omega
     go_wp2_with fail
     exact ⟨⟨n + 1, by omega, by go_num, HKY⟩, by simp [intOf]; omega⟩
   have hd1 : (d : Int) < (f : Int) := by omega
   have lrow := VY.out.lt n hltn
   have hc := VY.out.cell n d hltn hltd
   have hsol := vP_sol HPE.out HI3.out (n := n) (d := d) (by rw [← HN1.out.1]; exact hltn) (by rw [HEF.out]; exact hltd)
   have HBY : Hid (Below w.heap.size w wy) := Lib.hid (HKY.out.below HBW4.out HBW4.out.size (by simp))
   obtain ⟨z0, hz9, hz8, hz7⟩ : ∃ z0 : Int, (S n d).1 = ⟨z0, 0⟩ ∧ (z0 = 2 ∨ z0 = 0) ∧ If.holdsS ((List.range n1).map (If.solR q)) ((List.range n1).map (If.solF q)) (n : Int) (d : Int) = decide (z0 = 2) := by
     by_cases hp : ∃ a, If.PE q a n d
     · exact ⟨2, by rw [hsol.1 hp]; rfl, .inl rfl, (If.holds_t HOK.out hltn hp).trans (by decide)⟩
     · exact ⟨0, by rw [hsol.2 hp]; rfl, .inr rfl, (If.holds_f HOK.out hltn hp).trans (by decide)⟩
   have HHO := Lib.hid hz7
   rw [hz9] at hc
   obtain ⟨ca, cb⟩ := hc
   clear hz7 hz9 hsol
   go_upto_region 28 with fail
   refine wp_named (fun Y => ∃ g9, wy.heap.size = g9 ∧ Blk Y g9 [.int .i64 z0, .int .i64 0] ∧ Kept [] wy Y) ⟨_, rfl, Blk.new _ _ _ _ (by simp), (Kept.refl _ _).alloc _⟩ ?_
   rintro Y ⟨g9, eg9, BY, hkY⟩
   rw [eg9]
   have HKVY : Hid (Kept [] V4 Y) := Lib.hid (keptTrans HKY.out hkY)
   have ⟨LY, CY, FY⟩ := BY
   have ⟨LTY, CTY, FTY⟩ := HKVY.out.blk (by simp) HBGT.out
   have HRY := Lib.hid (HR4V.out.later HKVY.out.toBelow)
   have HFY := Lib.hid (HF4V.out.later HKVY.out.toBelow)
   clear eg9 ca cb r1 gl1 lrow L8y C8y F8y hkY
   rcases hz8 with rfl | rfl
   all_goals
     refine wp_region_E 12 (fun w' => SX0 Y w') (by kernel_rfl) (by (exact kp0)) (fun hHeld => ?_)
     refine WE_tk 0 ?_
     refine WE_tk 1 ?_
     refine WE_tk 2 ?_
     refine WE_tk 3 ?_
     refine WE_tk 4 ?_
     refine WE_tk 5 ?_
     refine WE_step 6 rfl (by kernel_rfl) (fun K hK => ?_)
     go_simp
     (go_at_call 16; refine (rholds_any T1 T2 n1 d1 n1 d2 _ _ n d _ (HRY.out.later hHeld.1.toBelow) (HFY.out.later hHeld.1.toBelow) (by omega) (by omega)).mono ?_; rw [HHO.out]; rintro e w6 ⟨rfl, hb6⟩; have HK6 := Lib.hid (hHeld.1.call hb6))
     (try go_wp2_with fail)
     refine hK.out _ _ ?_ (fun hHeld => ?_)
     · (exact kp0)
     clear hK K
     try simp only [Act.put, List.setIfInBounds_toArray, List.set_cons_zero, List.set_cons_succ]
     refine WE_tk 7 ?_
     refine WE_tk 8 ?_
     first | (refine WE_tu 9 ?_) | (refine WE_tk 9 ?_)
     first | (refine WE_tu 10 ?_) | (refine WE_tk 10 ?_)
     first | (refine WE_tu 11 ?_) | (refine WE_tk 11 ?_)
     refine WE_last rfl (by kernel_rfl) (fun K hK => ?_)
     go_simp
     refine hK.out _ _ ?_
     clear hK K
     go_wp2_with fail
     exact ⟨⟨d + 1, by omega, by go_num, Lib.hid (HKVY.out.next HK6.out (by simp))⟩, by simp [intOf]; omega⟩
 | true =>
 obtain ⟨hlt, hlt80⟩ : i < n3 ∧ i < 80 := of_decide_eq_true HBB.out
 obtain ⟨b3, o3, Ai, ni, ci, e3, hl3, hc3, hxp⟩ := HF.out.row HBR.out hlt
 subst e3
 have hl3r : b3 < wr.heap.size := by have := HBR.out.size; omega
 have hi1 : (i : Int) < (n3 : Int) := by omega
 have hni : ni ≤ 9223372036854775807 := by have h1 := HRL.out i; have h2 := hxp.1; omega
 have HXP := Lib.hid hxp
 obtain ⟨l, el⟩ : ∃ l, If.gf q.fl i = l := ⟨_, rfl⟩
 have HLN : Hid (l.length = ni) := Lib.hid (by rw [← el]; exact hxp.1)
 have HEL := Lib.hid el
 have HC3 := Lib.hid hc3
 obtain ⟨bi, hbi⟩ : ∃ bi, wr.heap.size = bi := ⟨_, rfl⟩
 have HBI := Lib.hid hbi
 have h0i : b0 < bi := by omega
 have hqi : g < bi := by omega
 have h3i : b3 < bi := by omega
 clear el hxp hbi
 go_wp2_with fail
 clear L0R C0R F0R hc3
 go_loopw [5, 6] (fun s7 s8 wz => ∃ (j : Nat) (A' : Option Addr) (c' : Nat), j ≤ ni ∧ j ≤ 30 ∧ s8 = .int .i64 j ∧ s7 = .slice A' j c' ∧ Hid (wz.ownsRow bi 52 5 (.slice A' j c') j ((l.take j).flatMap xc)) ∧ Hid (Kept [] wr wz)) (fun _ s8 _ => ni - (intOf s8).toNat)
 case atStart => exact ⟨0, none, 0, Nat.zero_le _, Nat.zero_le _, rfl, rfl, Lib.hid (World.ownsRow_nil _ _ _ _), Lib.hid (Kept.refl _ _)⟩
 case round =>
 rename World => wz
 obtain ⟨j, A', c', hj9, hj30, rfl, rfl, OWN, HKZ⟩ := hrel
 have HB0Z := Lib.hid (HKZ.out.blk (by simp) HB0R.out)
 have ⟨L0Z, C0Z, F0Z⟩ := HB0Z.out
 have hl3z : b3 < wz.heap.size := Nat.lt_of_lt_of_le hl3r HKZ.out.size
 have hc3 := (HKZ.out.cell b3 (o3 + i) hl3r (by simp)).trans HC3.out
 have hwz : bi ≤ wz.heap.size := by have := HKZ.out.size; have := HBI.out; omega
 have hbz9 : base ≤ wz.heap.size := by have := HBI.out; omega
 obtain ⟨bd, hbd⟩ : ∃ bd, decide (j < ni ∧ j < 30) = bd := ⟨_, rfl⟩
 have HBD := Lib.hid hbd
 clear hbd
 go_upto_region 7 with fail
 go_cut [42] (fun s wx => s = .bool bd ∧ wz = wx)
 case first =>
   by_cases h1 : j < ni
   · have d1 : (j : Int) < (ni : Int) := by omega
     by_cases h2 : j < 30
     · have d2 : (j : Int) < 30 := by omega
       obtain rfl : bd = true := by rw [← HBD.out]; exact decide_eq_true ⟨h1, h2⟩
       go_wp2_with fail
       go_meet
       exact ⟨rfl, rfl⟩
     · have d2 : decide ((j : Int) < 30) = false := decide_eq_false (by omega)
       obtain rfl : bd = false := by rw [← HBD.out]; exact decide_eq_false (by omega)
       go_wp2_with fail
       go_meet
       exact ⟨rfl, rfl⟩
   · have d1 : decide ((j : Int) < (ni : Int)) = false := decide_eq_false (by omega)
     obtain rfl : bd = false := by rw [← HBD.out]; exact decide_eq_false (by omega)
     go_wp2_with fail
     go_meet
     exact ⟨rfl, rfl⟩
 case rest =>
 obtain ⟨rfl, ew⟩ := hcut
 subst ew
 cases bd with
 | false =>
   have hjm : j = ni ∨ j = 30 := by
     have h9 : ¬ (j < ni ∧ j < 30) := of_decide_eq_false HBD.out
     omega
   have ⟨LqZ, CqZ, FqZ⟩ := HKZ.out.blk (by simp) HBGR.out
   have OWZ := Lib.hid (own_keptT (X := []) OWR.out HKZ.out (by simp))
   have HPL : Hid (Xps wz A' j (((If.gf q.fl i).take 30).map xOf) ∧ j ≤ c') := Lib.hid (by
     have e : l.take j = l.take 30 := by
       rcases hjm with h | h
       · rw [List.take_of_length_le (by rw [HLN.out]; omega), List.take_of_length_le (by rw [HLN.out]; omega)]
       · rw [h]
     have h1 := xps_own OWN.out (by rw [List.length_take, HLN.out]; omega)
     rw [HEL.out, ← e]
     exact h1)
   have HTG : Hid (∀ a, A' = some a → base ≤ a.block ∧ Tag wz a.block 52) := Lib.hid (fun a ha => ⟨by have := (own_addr OWN.out ha).1; have := HBI.out; omega, (own_addr OWN.out ha).2.1⟩)
   have HRZ := Lib.hid (HRP.out.kept HKZ.out (by simp))
   have HRS := Lib.hid (HRZ.out.snoc HPL.out.1 HPL.out.2 HTG.out)
   have HAP : Hid (If.rowsP R i ++ [Value.slice A' j c'] = If.rowsP (If.updP R i (A', j, c')) (i + 1)) := Lib.hid (If.rowsP_snoc R i j c' A')
   have HKVZ : Hid (Kept [g] V wz) := Lib.hid (HKR.out.next HKZ.out (by simp))
   have HBGZ := Lib.hid (HKZ.out.blk (by simp) HBGR.out)
   go_wp2_with (at_builtin; refine wpList_append_rd _ rfl _ _ 26 rfl base 44 j0 (.slice none 0 0) 1 24 Tryd.underlying26 ji jz0 jz1 jz2 rfl (by decide) (.slice A i c) i _ rfl (own_keptT (X := []) OWZ.out ((Kept.refl _ _).alloc _) (by simp)) (some ⟨wz.heap.size, 0, none⟩) 1 1 [.slice A' j c'] rfl (Rd.new1 _ _ _ _ rfl) (fun h => by cases h) (by intro u hu; have hu := List.mem_singleton.1 hu; subst hu; rfl) (i + 1) rfl _ HAP.out (by unfold maxLen; omega) (by omega) (by simp; omega) ?_; intro A8 c8 w8 hown8 hk8 hat8; have HO8 := Lib.hid hown8; have HB8 := Lib.hid (hk8.blk (b := g) (fun hm => by have := own_ge OWZ.out (by simpa using hm); omega) (((Kept.refl [] _).alloc _).blk (by simp) HBGZ.out)); have HR8 := Lib.hid ((HRS.out.kept ((Kept.refl [] wz).alloc (.cells #[.slice A' j c'] 44)) (by simp)).kept hk8 (fun b ht hb hm => Tag.ne ht (own_tag (own_keptT (X := []) OWZ.out ((Kept.refl _ _).alloc _) (by simp)) (by simpa using hm)) (by decide) rfl)); have HK8 := Lib.hid ((HKVZ.out.alloc (.cells #[.slice A' j c'] 44)).next hk8 (fun y hy => Or.inr (by have := own_ge OWZ.out (by simpa using hy); have := HBASE.out; omega))); have ⟨L8, C8, F8⟩ := HB8.out; clear hown8 hk8 hat8)
   exact ⟨⟨i + 1, _, A8, c8, by omega, by omega, by go_num, HB8.out.set 4 _, own_keptT (X := [g]) HO8.out ((Kept.refl [g] w8).set g 4 _ (.inl (by simp))) (fun x hx => by have := own_ge HO8.out hx; simp; omega), HR8.out.kept ((Kept.refl [g] w8).set g 4 _ (.inl (by simp))) (fun b _ hb => by simp; omega), HK8.out.set g 4 _ (.inl (by simp))⟩, by simp [intOf]; omega⟩
 | true =>
 obtain ⟨hltj, hltj30⟩ : j < ni ∧ j < 30 := of_decide_eq_true HBD.out
 obtain ⟨b5, o5, e5, hl5, hc5⟩ := HXP.out.2 (by omega)
 subst e5
 obtain ⟨qi, qo, eq⟩ : ∃ qi qo, If.gp (If.gf q.fl i) j = ⟨qi, qo⟩ := ⟨_, _, rfl⟩
 have HEQ2 : Hid (If.gp l j = ⟨qi, qo⟩) := Lib.hid (by rw [← HEL.out, eq])
 have hbz : Below w.heap.size w wz := (HBR.out.trans (HKZ.out.toBelow.mono HBR.out.size))
 have h5 := hc5 j hltj
 rw [eq] at h5
 obtain ⟨q0, q1⟩ := h5
 have x0 := (hbz.cell (p := ⟨b5, _, none⟩) hl5).trans q0
 have x1 := (hbz.cell (p := ⟨b5, _, none⟩) hl5).trans q1
 have hj1 : (j : Int) < (ni : Int) := by omega
 have hlz : b5 < wz.heap.size := Nat.lt_of_lt_of_le hl5 hbz.size
 have h5i : b5 < bi := by have := HBR.out.size; have := HBI.out; omega
 have HAP : Hid ((l.take j).flatMap xc ++ [.int .i64 qi, .int .i64 qo, .int .i64 2, .int .i64 0, .int .i64 0] = (l.take (j + 1)).flatMap xc) := Lib.hid (by
   rw [If.take_gp _ (by rw [HLN.out]; exact hltj), HEQ2.out]
   exact flat_snoc xc _ ⟨qi, qo⟩)
 have xa : b0 ∉ (Value.slice A' j c').ownBlock.toList := fun hm => by have := own_ge OWN.out (by simpa using hm); omega
 have xb : b3 ∉ (Value.slice A' j c').ownBlock.toList := fun hm => by have := own_ge OWN.out (by simpa using hm); omega
 have xc9 : b5 ∉ (Value.slice A' j c').ownBlock.toList := fun hm => by have := own_ge OWN.out (by simpa using hm); omega
 clear q0 q1 hc5 eq hbz
 go_upto_region 9 with fail
 refine wp_region_E 23 (fun w' => SXt (Value.slice A' j c').ownBlock.toList b0 b3 b5 wz w') (by kernel_rfl) (by (first | (with_reducible assumption) | exact SXt.of (keptNil (Kept.refl _ _).drew) L0Z hl3z hlz xa xb xc9 | exact SXt.of (hHeld.1.alloc _) L0Z hl3z hlz xa xb xc9 | exact SXt.of HKA.out L0Z hl3z hlz xa xb xc9)) (fun hHeld => ?_)
 refine WE_tk 0 ?_
 refine WE_tk 1 ?_
 refine WE_tk 2 ?_
 refine WE_tk 3 ?_
 refine WE_tk 4 ?_
 refine WE_tk 5 ?_
 refine WE_tk 6 ?_
 refine WE_tk 7 ?_
 refine WE_tk 8 ?_
 refine WE_tk 9 ?_
 refine WE_tk 10 ?_
 refine WE_tk 11 ?_
 refine WE_tk 12 ?_
 refine WE_tk 13 ?_
 refine WE_tk 14 ?_
 refine WE_tk 15 ?_
 refine WE_tk 16 ?_
 refine WE_tk 17 ?_
 refine WE_tk 18 ?_
 refine WE_tk 19 ?_
 refine WE_tk 20 ?_
 refine WE_step 21 rfl (by kernel_rfl) (fun K hK => ?_)
 go_simp
 refine hK.out _ _ ?_ (fun hHeld => ?_)
 · (first | (with_reducible assumption) | exact SXt.of (keptNil (Kept.refl _ _).drew) L0Z hl3z hlz xa xb xc9 | exact SXt.of (hHeld.1.alloc _) L0Z hl3z hlz xa xb xc9 | exact SXt.of HKA.out L0Z hl3z hlz xa xb xc9)
 clear hK K
 try simp only [Act.put, List.setIfInBounds_toArray, List.set_cons_zero, List.set_cons_succ]
 refine WE_step 22 rfl (by kernel_rfl) (fun K hK => ?_)
 (refine step_append_rd _ rfl _ _ 44 rfl bi 52 i0 (.agg #[.int .i64 0, .int .i64 0, .int .i64 0, .int .i64 0, .int .i64 0]) 5 40 Tryd.underlying44 hi hz0 hz1 hz2 rfl (by decide) (.slice A' j c') j _ rfl (own_keptT (X := []) OWN.out (((Kept.refl [] wz).drew).alloc _) (by simp)) (some ⟨wz.heap.size, 0, none⟩) 1 1 [.int .i64 qi, .int .i64 qo, .int .i64 2, .int .i64 0, .int .i64 0] rfl (Rd.newL9 _ _ _ _ _ rfl rfl) (fun h => by cases h) (by intro u hu; simp at hu; rcases hu with rfl | rfl | rfl | rfl <;> rfl) (j + 1) rfl _ HAP.out (by unfold maxLen; omega) (by omega) (by simp; omega) ?_; intro A8 c8 w8 hown8 hk8 hat8; have hkA : Kept (Value.slice A' j c').ownBlock.toList wz w8 := (keptNil (((Kept.refl [] wz).drew).alloc _)).next hk8 (fun y hy => Or.inl hy); have HO8 := Lib.hid hown8; have HKA := Lib.hid hkA; clear hown8 hk8 hat8 hkA)
 refine hK.out _ _ ?_ (fun hHeld => ?_)
 · (first | (with_reducible assumption) | exact SXt.of (keptNil (Kept.refl _ _).drew) L0Z hl3z hlz xa xb xc9 | exact SXt.of (hHeld.1.alloc _) L0Z hl3z hlz xa xb xc9 | exact SXt.of HKA.out L0Z hl3z hlz xa xb xc9)
 clear hK K
 try simp only [Act.put, List.setIfInBounds_toArray, List.set_cons_zero, List.set_cons_succ]
 refine WE_last rfl (by kernel_rfl) (fun K hK => ?_)
 go_simp
 refine hK.out _ _ ?_
 clear hK K
 have HK8 : Hid (Kept [] wr w8) := Lib.hid (HKZ.out.next HKA.out (fun y hy => Or.inr (by have := own_ge OWN.out (by simpa using hy); have := HBI.out; omega)))
 go_wp2_with fail
 exact ⟨⟨j + 1, A8, c8, by omega, by omega, by go_num, rfl, HO8, HK8⟩, by simp [intOf]; omega⟩
end Go.Proofs.YtincpmdldpakkaaDoor
