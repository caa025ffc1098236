/- Texts: Cd Ci. -/
import Derived.Test.YtincpmdldpakkaaDoorCi23
import Derived.Test.YtincpmdldpakkaaDoorCi26
namespace Go.Proofs.YtincpmdldpakkaaDoor
open Go.RowKit Go.Df Go.Df.Iv Go.Df.Sp
attribute [local go_sem ↓] Go.wp_at_zero Go.wp_at_succ
set_option maxRecDepth 100000 in
set_option maxHeartbeats 100000000 in
theorem drain2_any {p : Vb} {K : Kn} {w0 : World} {b bs : Nat} {O : Nat → Prop} {G : Gh} {s : St} (w : World) (J : Nat → List (Nat × Nat) → St → Prop) (hJ : Dr p J) (hN1 : K.n1 = p.ns.length) (hNS : p.ns.length ≤ 8192) (hmu : mu0 p ≤ 1000000) (hm : Mem p K w0 b O G w s) (hj : J 0 [] s) (hbs : Blk w bs [.pointer (some ⟨b, 0, none⟩)]) (hsb : SafeB O w bs)
   (hdeal : ∀ (w9 : World) (O9 : Nat → Prop) (G9 : Gh) (s9 : St) (n a d : Nat) (rest : List (Nat × Nat)), Mem p K w0 b O9 G9 w9 s9 → J n ((a, d) :: rest) s9 → Blk w9 bs [.pointer (some ⟨b, 0, none⟩)] → SafeB O9 w9 bs →
     Calls Tryd.prog 61 #[.int .i64 n, .agg #[.int .i64 a, .int .i64 d], .pointer (some ⟨bs, 0, none⟩)] w9 (GetD p K w0 b O9 G9 w9 s9 (J n rest))) :
   Calls Tryd.prog 57 #[.pointer (some ⟨b, 0, none⟩), .func (.func 61) #[] #[.pointer (some ⟨bs, 0, none⟩)]] w (fun e w' => ∃ s' O' G', e = .returned (.tuple #[]) ∧ Mem p K w0 b O' G' w' s' ∧ Fy K O O' G G' s s' w w' ∧ J 0 [] s' ∧ s'.q = []) := by
 have HK1 := Lib.hid hN1
 have HJ := Lib.hid hJ
 have HD := Lib.hid hdeal
 have HSB := Lib.hid hsb
 have HBS := Lib.hid hbs
 obtain ⟨PM, hPM⟩ : ∃ PM : Nat → World → Prop, PM = fun m wr => ∃ O1 G1 s1, Mem p K w0 b O1 G1 wr s1 ∧ Fy K O O1 G G1 s s1 w wr ∧ J 0 [] s1 ∧ mea p s1 = m := ⟨_, rfl⟩
 have HPM := Lib.hid hPM
 have hPM0 : ∃ m, PM m w := by rw [hPM]; exact ⟨_, O, G, s, hm, Fy.refl _ _ _ _ _, hj, rfl⟩
 clear hPM hm hj hbs hsb hdeal hJ hN1
 go_enter Tryd.func57, Tryd.ntmps57
 go_wp2_with fail
 go_loopw [10] (fun _ wr => ∃ m, PM m wr) (fun _ wr => leastM PM wr)
 case atStart => exact hPM0
 case round =>
 clear hPM0
 rename World => wr
 have hex := hrel
 have hsp := leastM_spec hex
 obtain ⟨lv, hlv⟩ : ∃ lv, lv = leastM PM wr := ⟨_, rfl⟩
 rw [← hlv] at hsp
 rw [show PM = _ from HPM.out] at hsp
 have HLV := Lib.hid hlv
 clear hlv
 obtain ⟨O1, G1, s1, MR', FR', JV', hme⟩ := hsp
 have MR := Lib.hid MR'
 have FR := Lib.hid FR'
 have JV := Lib.hid JV'
 have HWF := Lib.hid (HJ.out.wf _ _ _ JV')
 have HME := Lib.hid hme
 have BR := MR.out.box
 unfold sbox at BR
 have ⟨LR, CR, FRb⟩ := BR
 have HQ := Lib.hid MR.out.queue
 have HRK := Lib.hid MR.out.rank
 clear MR' FR' JV' hme hex hrel
 cases hq : s1.q with
 | nil =>
   have hqn : G1.qn = 0 := by have h1 := HQ.out.1.1.1; rw [hq] at h1; exact h1.symm
   have HQN := Lib.hid hqn
   have HQ0 : Hid (Ints wr G1.qA G1.qn []) := Lib.hid (by have h1 := HQ.out.1.1; rw [hq] at h1; exact h1)
   have HQE := Lib.hid hq
   clear hq hqn
   go_wp2_with (go_at_call 96; refine (pop_no G1.rA G1.qA 0 G1.rc G1.qn G1.qc [] [] _ HRK.out.1 HQ0.out (.inr HQN.out)).mono ?_; rintro e w2 ⟨rA, rn, rc, qA, qn, qc, rfl, hr2, hq2, hb2, hfr2, hfq2⟩)
   refine bodyPost_ret (results_none rfl _ _ _) rfl ?_
   have hke : Kept [] wr (w2.alloc _) := ((Kept.refl _ _).call hb2).alloc (.cells #[.slice rA rn rc, .slice qA qn qc] 93)
   exact ⟨s1, O1, G1, rfl, MR.out.kept hke, FR.out.trans (Fy.kept K O1 G1 s1 hke), JV.out, HQE.out⟩
 | cons n r =>
   have hnd := HWF.out.qn
   rw [hq] at hnd
   have hqN : ∀ x ∈ n :: r, x < p.ns.length := fun x hx => by
     have h1 := (HWF.out.qp x).1 (by rw [hq]; exact hx)
     obtain ⟨y, hy⟩ := List.exists_mem_of_ne_nil _ h1
     exact (HWF.out.pr x y hy).1
   have hn : n < p.ns.length := hqN n (by simp)
   have HQC : Hid (SIn wr G1.qA G1.qn G1.qc (ofNats (n :: r))) := Lib.hid (by have h1 := HQ.out.1; rw [hq] at h1; exact h1)
   have HND2 := Lib.hid hnd
   have HQL := Lib.hid hqN
   have HQE := Lib.hid hq
   have hnK : n < K.n1 := by rw [HK1.out]; exact hn
   have hnK' : (n : Int) < (K.n1 : Int) := by omega
   clear hnd hqN hq HQ
   go_upto_region 1 with (go_at_call 96; refine (pop_some _ HRK.out HQC.out HND2.out HQL.out hNS).mono ?_; rintro e w2 ⟨rA, rn, rc, qA, qn, qc, rfl, hr2, hq2, hb2, hfr2, hfq2⟩)
   obtain rfl : rn = 0 := hr2.1.1.symm
   refine wp_named (fun V => ∃ y, w2.heap.size = y ∧ Blk V y [.slice rA 0 rc, .slice qA qn qc] ∧ Kept [] w2 V) ⟨_, rfl, Blk.new _ _ _ _ rfl, (Kept.refl _ _).alloc _⟩ ?_
   rintro V5 ⟨y, ey, By, hkV⟩
   rw [ey]
   have ⟨Ly, Cy, Fy'⟩ := By
   have hk5 : Kept [] wr V5 := keptTrans ((Kept.refl _ _).call hb2) hkV
   have MV := Lib.hid (MR.out.kept hk5)
   have FV := Lib.hid (FR.out.trans (Fy.kept K O1 G1 s1 hk5))
   have HQV : Hid (SInO O1 V5 qA qn qc (ofNats r)) := Lib.hid ((SInO.new (O := O1) hq2 hfq2 (fun x hx => (MR.out.og x hx).2)).fx (.same hkV))
   have HRV : Hid (SIn V5 rA 0 rc []) := Lib.hid (hr2.kept hkV)
   have BV := MV.out.box
   unfold sbox at BV
   have ⟨LV, CV, FVb⟩ := BV
   clear CR FRb ey hq2 hr2 HRK HQC MR
   go_upto_region 3 with fail
   have hset := MV.out.set_queue HQV.out HRV.out
   refine wp_named (fun X => ∃ G2, Mem p K w0 b O1 G2 X (s1.setQ r) ∧ Fy K O1 O1 G1 G2 s1 (s1.setQ r) V5 X) ⟨_, hset⟩ ?_
   rintro X ⟨G2, MX', FX'⟩
   have MX := Lib.hid MX'
   have FXX := Lib.hid (FV.out.trans FX')
   have BX5 := MX.out.box
   unfold sbox at BX5
   have ⟨LX5, CX5, FX5⟩ := BX5
   obtain ⟨Ab, mb, cb, hpv, hmb⟩ : ∃ A9 m9 c9, G2.pv n = .slice A9 m9 c9 ∧ m9 = (s1.pd n).length := by
     rcases (MX.out.pown n hnK).2 with ⟨h1, h2⟩ | ⟨g', cap, cur, h1, _⟩
     · exact ⟨_, _, _, h1, h2.symm⟩
     · exact ⟨_, _, _, h1, rfl⟩
   have OWN : Hid (X.ownsRow w0.heap.size 48 2 (.slice Ab mb cb) mb (pcells (s1.pd n))) := Lib.hid (by have h9 := MX.out.pown n hnK; rw [hpv, show ((s1.setQ r).pd n).length = mb from hmb.symm] at h9; exact h9)
   have rP : X.cell? ⟨K.pr, n, none⟩ = some (.slice Ab mb cb) := by rw [← hpv]; exact MX.out.prow n hnK
   have fP := MX.out.ptag.frozen n
   have hprX : K.pr < X.heap.size := MX.out.ptag.lt
   obtain ⟨O3, G3, M3', F3', h3o⟩ := MX.out.set_nil (n := n) hnK
   have HSB2 : Hid (∀ a, Ab = some a → SafeB O3 (X.setCell ⟨K.pr, n, none⟩ (.slice none 0 0)) a.block ∧ a.block ≠ K.pr ∧ a.block < X.heap.size) := fun a ha => by
     have h1 : (G2.pv n).ownBlock = some a.block := by rw [hpv, ha]; rfl
     have h2 := (own_tag (MX.out.pown n hnK) h1).ne MX.out.ptag (by decide)
     have h4 := (MX.out.og _ (MX.out.opv n a.block hnK h1)).2
     exact ⟨⟨by simpa [World.setCell] using h4, fun ho => h3o _ ho h1⟩, h2, h4⟩
   have HMB := Lib.hid hmb
   have hmb20 : mb ≤ 1000000 := by
     have h1 := MX.out.pb n hnK
     have h2 := HWF.out.kb 4
     have h3 : (s1.setQ r).k 4 = s1.k 4 := rfl
     have h5 : ((s1.setQ r).pd n).length = (s1.pd n).length := rfl
     omega
   clear CV FVb Cy Fy' hset MX' FX' hmb hpv h3o
   go_upto_region 5 with fail
   refine wp_named (fun Y => Mem p K w0 b O3 G3 Y (popS s1 n r) ∧ Fy K O1 O3 G2 G3 (s1.setQ r) (popS s1 n r) X Y ∧ (∀ a, Ab = some a → SafeB O3 Y a.block) ∧ Kept [K.pr] X Y) ⟨M3', F3', fun a ha => (HSB2.out a ha).1, (Kept.refl _ _).set K.pr n _ (.inl (by simp))⟩ ?_
   rintro Y ⟨MY', FY', hSY, hkXY⟩
   have MY := Lib.hid MY'
   have FYY := Lib.hid (FXX.out.trans FY')
   have HSY := Lib.hid hSY
   have HPOP := Lib.hid (HJ.out.pop s1 n r JV.out HQE.out)
   have HBC : Hid (∀ i (h : i < (s1.pd n).length), ∃ bb, Ab = some ⟨bb, 0, none⟩ ∧ Y.cell? ⟨bb, i * 2, none⟩ = some (.int .i64 ((s1.pd n)[i].1 : Nat)) ∧ Y.cell? ⟨bb, i * 2 + 1, none⟩ = some (.int .i64 ((s1.pd n)[i].2 : Nat))) := fun i h => by
     rcases OWN.out.2 with ⟨h1, h2⟩ | ⟨g', cap, cur, h1, _⟩
     · have := HMB.out; omega
     · injection h1 with e1 e2 e3
       have h2 := HSB2.out _ e1
       obtain ⟨p1, p2⟩ := pcells_at (s1.pd n) h
       have q1 := OWN.out.cells (g := g') (by rw [e1]; rfl) _ _ p1
       have q2 := OWN.out.cells (g := g') (by rw [e1]; rfl) _ _ p2
       rw [add_lit, Nat.zero_add] at q1 q2
       exact ⟨g', e1, (hkXY.cell g' _ h2.2.2 (by simpa using h2.2.1)).trans q1, (hkXY.cell g' _ h2.2.2 (by simpa using h2.2.1)).trans q2⟩
   clear CX5 FX5 rP fP MY' FY' hSY hkXY M3' F3' HSB2 OWN MX FXX
   go_wp2_with fail
   go_loopw [40] (fun s40 wz => ∃ (i : Nat) (s2 : St) (O' : Nat → Prop) (G' : Gh), i ≤ mb ∧ s40 = .int .i64 i ∧ Hid (Mem p K w0 b O' G' wz s2) ∧ Hid (Fy K O O' G G' s s2 w wz) ∧ Hid (Fy K O3 O' G3 G' (popS s1 n r) s2 Y wz) ∧ Hid (J n ((s1.pd n).drop i) s2) ∧ Hid (mea p s2 ≤ mea p (popS s1 n r))) (fun s40 _ => mb - (intOf s40).toNat)
   case atStart => exact ⟨0, popS s1 n r, O3, G3, Nat.zero_le _, rfl, MY, FYY, Lib.hid (Fy.refl _ _ _ _ _), by rw [List.drop_zero]; exact HPOP, Nat.le_refl _⟩
   case round =>
   clear MY FYY
   rename World => wz
   obtain ⟨i, s2, O4, G4, hi, rfl, MZ, FZ0, FZ, JZ, LZ⟩ := hrel
   by_cases hlt : i < mb
   · have hi' : i < (s1.pd n).length := by rw [← HMB.out]; exact hlt
     obtain ⟨bb, rfl, c1', c2'⟩ := HBC.out i hi'
     have hsb := HSY.out _ rfl
     obtain ⟨a, d, had⟩ : ∃ a d, (s1.pd n)[i] = (a, d) := ⟨_, _, rfl⟩
     rw [had] at c1' c2'
     replace c1' := (hsb.cell FZ.out.fx (i * 2)).trans c1'
     replace c2' := (hsb.cell FZ.out.fx (i * 2 + 1)).trans c2'
     have hbz := (hsb.fx FZ.out.fx).1
     have hi1 : (i : Int) < (mb : Int) := by omega
     have HDR : Hid ((s1.pd n).drop i = (a, d) :: (s1.pd n).drop (i + 1)) := Lib.hid (by rw [List.drop_eq_getElem_cons hi', had])
     have HJJ : Hid (J n ((a, d) :: (s1.pd n).drop (i + 1)) s2) := Lib.hid (by have h1 := JZ.out; rw [HDR.out] at h1; exact h1)
     clear had
     go_upto_region 8 with fail
     refine wp_named (fun V => ∃ y, wz.heap.size = y ∧ Blk V y [.int .i64 a, .int .i64 d] ∧ Kept [] wz V) ⟨_, rfl, Blk.new _ _ _ _ rfl, (Kept.refl _ _).alloc _⟩ ?_
     rintro V7 ⟨y7, ey, By7, hkV7⟩
     rw [ey]
     have ⟨Ly7, Cy7, Fy7⟩ := By7
     have M7 := Lib.hid (MZ.out.kept hkV7)
     have F7 := Fy.kept K O4 G4 s2 hkV7
     have HDL : Hid (Calls Tryd.prog 61 #[.int .i64 n, .agg #[.int .i64 a, .int .i64 d], .pointer (some ⟨bs, 0, none⟩)] V7 (GetD p K w0 b O4 G4 V7 s2 (J n ((s1.pd n).drop (i + 1))))) := HD.out V7 O4 G4 s2 n a d _ M7.out HJJ.out (HSB.out.blk (FZ0.out.trans F7).fx HBS.out) (HSB.out.fx (FZ0.out.trans F7).fx)
     clear c1' c2' ey
     go_wp2_with (go_at_call 61; refine HDL.out.mono ?_; rintro e w8 ⟨s8, O8, G8, rfl, M8, F8, J8, L8⟩)
     exact ⟨⟨i + 1, s8, O8, G8, by omega, by go_num, M8, FZ0.out.trans (F7.trans F8), FZ.out.trans (F7.trans F8), J8, Nat.le_trans L8 LZ.out⟩, by simp [intOf]; omega⟩
   · obtain rfl : mb = i := by omega
     have HJE : Hid (J n [] s2) := by have h1 := JZ.out; rw [HMB.out, List.drop_length] at h1; exact h1
     have hpop := mea_pop (p := p) HQE.out
     have hlm : PM (mea p s2) wz := by
       rw [HPM.out]
       exact ⟨O4, G4, s2, MZ.out, FZ0.out, HJ.out.rest n s2 HJE.out, rfl⟩
     have hl2 := leastM_le hlm
     have HLM := Lib.hid hlm
     have HL2 := Lib.hid hl2
     have HPP := Lib.hid hpop
     clear hlm hl2 hpop
     go_wp2_with fail
     refine ⟨⟨_, HLM.out⟩, ?_⟩
     have h1 := HL2.out; have h2 := LZ.out; have h3 := HPP.out; have h4 := HME.out; have h5 := HLV.out
     omega
end Go.Proofs.YtincpmdldpakkaaDoor
namespace Go.Proofs.YtincpmdldpakkaaDoor
open Go.RowKit Go.Df Go.Df.Iv Go.Df.Sp
attribute [local go_sem ↓] Go.wp_at_zero Go.wp_at_succ
theorem inv_dr (p : Vb) (T : Nat → Nat → Nat → D) : Dr p (InvV p T) := ⟨fun _ _ _ h => h.good.wf, fun _ _ _ h hq => h.pop hq, fun _ _ h => h.rest0 0⟩
theorem drain2_ok {p : Vb} {T : Nat → Nat → Nat → D} {K : Kn} {w0 : World} {b bs : Nat} {O : Nat → Prop} {G : Gh} {s : St} (w : World) (hI : Inp p K w0) (ho : VOk p) (hf : VFit p) (hmu : mu0 p ≤ 1000000) (hm : Mem p K w0 b O G w s) (hj : InvV p T 0 [] s) (hbs : Blk w bs [.pointer (some ⟨b, 0, none⟩)]) (hsb : SafeB O w bs) :
   Calls Tryd.prog 57 #[.pointer (some ⟨b, 0, none⟩), .func (.func 61) #[] #[.pointer (some ⟨bs, 0, none⟩)]] w (fun e w' => ∃ s' O' G', e = .returned (.tuple #[]) ∧ Mem p K w0 b O' G' w' s' ∧ Fy K O O' G G' s s' w w' ∧ InvV p T 0 [] s' ∧ s'.q = []) :=
 drain2_any w (InvV p T) (inv_dr p T) hI.nd.1.symm (If.sup_parts ho.sup).1 hmu hm hj hbs hsb (fun w9 O9 G9 s9 n a d rest hm9 hj9 hb9 hs9 => by
   have hr := hj9.rst (a, d) (by simp)
   refine (deal2_any (T := T) w9 n a d hI ho hf hmu hj9.good hm9 hr.1 hr.2 hb9 hs9).mono ?_
   rintro e w' ⟨s', O', G', he, hm', hf', hx', hd'⟩
   refine ⟨s', O', G', he, hm', hf', hj9.step hx'.gw hx'.good (fun k hk h2 hst q hq => ?_), hx'.mea⟩
   exact hd' k (mem_leavL.2 ⟨hk, h2, hst⟩) q hq)
set_option maxRecDepth 100000 in
set_option maxHeartbeats 10000000 in
theorem value_any {p : Vb} {K : Kn} {w0 : World} {b : Nat} {O : Nat → Prop} {G : Gh} {s : St} (w : World) (hI : Inp p K w0) (ho : VOk p) (hf : VFit p) (hmu : mu0 p ≤ 1000000) (hw : Wf p s) (hV : s.V = fun _ _ => topV) (hm : Mem p K w0 b O G w s) :
   Calls Tryd.prog 29 #[.pointer (some ⟨b, 0, none⟩)] w (fun e w' => ∃ s' O' G', e = .returned (.tuple #[]) ∧ Mem p K w0 b O' G' w' s' ∧ Fy K O O' G G' s s' w w' ∧ GoodV p s.T s' ∧ VClo p s.T s'.V) := by
 have hmain := If.main_in (If.sup_parts ho.sup).2.2.1
 obtain ⟨mN, hmN⟩ := Int.eq_ofNat_of_zero_le (show 0 ≤ p.mn by omega)
 have hmn : mN < p.ns.length := by omega
 have hF0 : 0 < p.F.toNat := by have := ho.f1; omega
 have HMN : Hid (p.mn.toNat = mN) := by show _ = _; rw [hmN, Int.toNat_natCast]
 have HIV : Hid (InvV p s.T 0 [] (s.low mN 0 botV)) := by
   have h1 := initV (p := p) hw rfl hV (by rw [hmN, Int.toNat_natCast]; exact hmn) hF0
   rw [HMN.out] at h1
   exact h1
 have HM := Lib.hid hm
 have HI := Lib.hid hI
 have HO := Lib.hid ho
 have HFI := Lib.hid hf
 have HW := Lib.hid hw
 have HMU := Lib.hid hmu
 have HN1 := Lib.hid hI.nd.1.symm
 have HN2 : Hid (K.n1 ≤ 8192) := by have h1 := (If.sup_parts ho.sup).1; have h2 := hI.nd.1; show _ ≤ _; omega
 have HF2 : Hid (p.F ≤ 1024) := ho.f2
 have HMN2 := Lib.hid hmN
 clear hm hI ho hf hw hmu hV hmain hmN
 go_enter Tryd.func29, Tryd.ntmps29
 go_upto_region 1 with fail
 refine wp_named (fun W => ∃ b0, w.heap.size = b0 ∧ Blk W b0 [.pointer (some ⟨b, 0, none⟩)] ∧ Below w.heap.size w W) ⟨_, rfl, ?_, ?_⟩ ?_
 · exact Blk.new _ _ _ _ (by first | rfl | simp)
 · go_grown
 rintro W ⟨b0, e0, B0, hB⟩
 rw [e0]
 have G0 : w.heap.size ≤ b0 := by omega
 clear e0
 have ⟨L0, C0, F0⟩ := B0
 have hkW : Kept [] w W := (Kept.refl _ _).call hB
 have MW := Lib.hid (HM.out.kept hkW)
 have SS : Hid (SafeB O W b0) := HM.out.fresh G0 L0
 have HBS := Lib.hid B0
 have BW := MW.out.box
 unfold sbox at BW
 rw [HMN2.out] at BW
 have ⟨LW, CW, FW⟩ := BW
 have HLO : Hid (∀ w9, Kept [] W w9 → Calls Tryd.prog 60 #[.pointer (some ⟨b, 0, none⟩), .int .i64 mN, .int .i64 0, .agg #[.int .i64 2, .int .i64 0]] w9 (fun e w' => ∃ O' G', e = .returned (.tuple #[]) ∧ Mem p K w0 b O' G' w' (s.low mN 0 botV) ∧ Fy K O O' G G' s (s.low mN 0 botV) W w')) := fun w9 hk9 =>
   (lower_any w9 mN 0 botV 2 0 rfl (MW.out.kept hk9) HW.out HN1.out HN2.out HF2.out HMU.out hmn hF0).mono (fun e w' h9 => h9.from hk9)
 refine wp_region_E 8 (fun w' => SX0 W w') (by kernel_rfl) (by (exact kp0)) (fun hHeld => ?_)
 refine WE_tk 0 ?_
 refine WE_tk 1 ?_
 refine WE_tk 2 ?_
 refine WE_tk 3 ?_
 refine WE_tk 4 ?_
 refine WE_tk 5 ?_
 refine WE_tk 6 ?_
 refine WE_tk 7 ?_
 refine WE_last rfl (by kernel_rfl) (fun K hK => ?_)
 go_simp
 (go_at_call 60; refine (HLO.out _ (by (exact kpt0))).mono ?_; rintro e w7 ⟨O7, G7, rfl, M7', F7⟩)
 (try go_wp2_with fail)
 refine hK.out _ _ ?_
 clear hK K
 have M7 := Lib.hid M7'
 have S7 := Lib.hid (SS.out.fx F7.fx)
 have HB7 := Lib.hid (SS.out.blk F7.fx HBS.out)
 have ⟨L7, C7, F7b⟩ := HB7.out
 have HDR : Hid (Calls Tryd.prog 57 #[.pointer (some ⟨b, 0, none⟩), .func (.func 61) #[] #[.pointer (some ⟨b0, 0, none⟩)]] w7 (fun e w' => ∃ s' O' G', e = .returned (.tuple #[]) ∧ Mem p K w0 b O' G' w' s' ∧ Fy K O7 O' G7 G' (s.low mN 0 botV) s' w7 w' ∧ InvV p s.T 0 [] s' ∧ s'.q = [])) := drain2_ok w7 HI.out HO.out HFI.out HMU.out M7.out HIV.out HB7.out S7.out
 clear CW FW C0 F0 M7'
 go_wp2_with (go_at_call 57; refine HDR.out.mono ?_; rintro e w9 ⟨s9, O9, G9, rfl, M9, F9, I9, Q9⟩)
 go_end0
 exact ⟨s9, O9, G9, rfl, M9, (Fy.kept K O G s hkW).trans (F7.trans F9), I9.good, I9.done Q9⟩
end Go.Proofs.YtincpmdldpakkaaDoor
