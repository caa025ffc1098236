/- Texts: Cc Ce Cf Cj Aq. -/
import Derived.Test.YtincpmdldpakkaaGreatDoorRc18
import Derived.Test.YtincpmdldpakkaaGreatDoorRc21
import Derived.Test.YtincpmdldpakkaaGreatDoorRc14
import Derived.Test.YtincpmdldpakkaaGreatDoorRc17
import Derived.Test.YtincpmdldpakkaaGreatDoorRc10
import Derived.Test.YtincpmdldpakkaaGreatDoorRc05
import Derived.Test.YtincpmdldpakkaaGreatDoorRc09
namespace Go.Proofs.YtincpmdldpakkaaGreatDoor
open Go.RowKit Go.Df Go.Df.Iv Go.Df.Sp
attribute [local go_sem ↓] Go.wp_at_zero Go.wp_at_succ
set_option maxRecDepth 100000 in
set_option maxHeartbeats 100000000 in
theorem drain1_any {p : Vb} {K : Kn} {w0 : World} {b bs : Nat} {O : Nat → Prop} {G : Gh} {s : St} (w : World) (J : Nat → List (Nat × Nat) → St → Prop) (hJ : Dr p J) (hN1 : K.n1 = p.ns.length) (hNS : p.ns.length ≤ 8192) (hmu : mu0 p ≤ 1000000) (hm : Mem p K w0 b O G w s) (hj : J 0 [] s) (hbs : Blk w bs [.pointer (some ⟨b, 0, none⟩)]) (hsb : SafeB O w bs)
   (hdeal : ∀ (w9 : World) (O9 : Nat → Prop) (G9 : Gh) (s9 : St) (n a d : Nat) (rest : List (Nat × Nat)), Mem p K w0 b O9 G9 w9 s9 → J n ((a, d) :: rest) s9 → Blk w9 bs [.pointer (some ⟨b, 0, none⟩)] → SafeB O9 w9 bs →
     Calls Tryz.prog 78 #[.int .i64 n, .agg #[.int .i64 a, .int .i64 d], .pointer (some ⟨bs, 0, none⟩)] w9 (GetD p K w0 b O9 G9 w9 s9 (J n rest))) :
   Calls Tryz.prog 77 #[.pointer (some ⟨b, 0, none⟩), .func (.func 78) #[] #[.pointer (some ⟨bs, 0, none⟩)]] w (fun e w' => ∃ s' O' G', e = .returned (.tuple #[]) ∧ Mem p K w0 b O' G' w' s' ∧ Fy K O O' G G' s s' w w' ∧ J 0 [] s' ∧ s'.q = []) := by
 have HK1 := Lib.hid hN1
 have HJ := Lib.hid hJ
 have HD := Lib.hid hdeal
 have HSB := Lib.hid hsb
 have HBS := Lib.hid hbs
 obtain ⟨PM, hPM⟩ : ∃ PM : Nat → World → Prop, PM = fun m wr => ∃ O1 G1 s1, Mem p K w0 b O1 G1 wr s1 ∧ Fy K O O1 G G1 s s1 w wr ∧ J 0 [] s1 ∧ mea p s1 = m := ⟨_, rfl⟩
 have HPM := Lib.hid hPM
 have hPM0 : ∃ m, PM m w := by rw [hPM]; exact ⟨_, O, G, s, hm, Fy.refl _ _ _ _ _, hj, rfl⟩
 clear hPM hm hj hbs hsb hdeal hJ hN1
 go_enter Tryz.func77, Tryz.ntmps77
 go_wp2_with fail
 go_loopw [10] (fun _ wr => ∃ m, PM m wr) (fun _ wr => leastM PM wr)
 case atStart => exact hPM0
 case round =>
 clear hPM0
 rename World => wr
 have hex := hrel
 have hsp := leastM_spec hex
 obtain ⟨lv, hlv⟩ : ∃ lv, lv = leastM PM wr := ⟨_, rfl⟩
 rw [← hlv] at hsp
 rw [show PM = _ from HPM.out] at hsp
 have HLV := Lib.hid hlv
 clear hlv
 obtain ⟨O1, G1, s1, MR', FR', JV', hme⟩ := hsp
 have MR := Lib.hid MR'
 have FR := Lib.hid FR'
 have JV := Lib.hid JV'
 have HWF := Lib.hid (HJ.out.wf _ _ _ JV')
 have HME := Lib.hid hme
 have BR := MR.out.box
 unfold sbox at BR
 have ⟨LR, CR, FRb⟩ := BR
 have HQ := Lib.hid MR.out.queue
 have HRK := Lib.hid MR.out.rank
 clear MR' FR' JV' hme hex hrel
 cases hq : s1.q with
 | nil =>
   have hqn : G1.qn = 0 := by have h1 := HQ.out.1.1.1; rw [hq] at h1; exact h1.symm
   have HQN := Lib.hid hqn
   have HQ0 : Hid (Ints wr G1.qA G1.qn []) := Lib.hid (by have h1 := HQ.out.1.1; rw [hq] at h1; exact h1)
   have HQE := Lib.hid hq
   clear hq hqn
   go_wp2_with (go_at_call 137; refine (pop_no G1.rA G1.qA 0 G1.rc G1.qn G1.qc [] [] _ HRK.out.1 HQ0.out (.inr HQN.out)).mono ?_; rintro e w2 ⟨rA, rn, rc, qA, qn, qc, rfl, hr2, hq2, hb2, hfr2, hfq2⟩)
   refine bodyPost_ret (results_none rfl _ _ _) rfl ?_
   have hke : Kept [] wr (w2.alloc _) := ((Kept.refl _ _).call hb2).alloc (.cells #[.slice rA rn rc, .slice qA qn qc] 97)
   exact ⟨s1, O1, G1, rfl, MR.out.kept hke, FR.out.trans (Fy.kept K O1 G1 s1 hke), JV.out, HQE.out⟩
 | cons n r =>
   have hnd := HWF.out.qn
   rw [hq] at hnd
   have hqN : ∀ x ∈ n :: r, x < p.ns.length := fun x hx => by
     have h1 := (HWF.out.qp x).1 (by rw [hq]; exact hx)
     obtain ⟨y, hy⟩ := List.exists_mem_of_ne_nil _ h1
     exact (HWF.out.pr x y hy).1
   have hn : n < p.ns.length := hqN n (by simp)
   have HQC : Hid (SIn wr G1.qA G1.qn G1.qc (ofNats (n :: r))) := Lib.hid (by have h1 := HQ.out.1; rw [hq] at h1; exact h1)
   have HND2 := Lib.hid hnd
   have HQL := Lib.hid hqN
   have HQE := Lib.hid hq
   have hnK : n < K.n1 := by rw [HK1.out]; exact hn
   have hnK' : (n : Int) < (K.n1 : Int) := by omega
   clear hnd hqN hq HQ
   go_upto_region 1 with (go_at_call 137; refine (pop_some _ HRK.out HQC.out HND2.out HQL.out hNS).mono ?_; rintro e w2 ⟨rA, rn, rc, qA, qn, qc, rfl, hr2, hq2, hb2, hfr2, hfq2⟩)
   obtain rfl : rn = 0 := hr2.1.1.symm
   refine wp_named (fun V => ∃ y, w2.heap.size = y ∧ Blk V y [.slice rA 0 rc, .slice qA qn qc] ∧ Kept [] w2 V) ⟨_, rfl, Blk.new _ _ _ _ rfl, (Kept.refl _ _).alloc _⟩ ?_
   rintro V5 ⟨y, ey, By, hkV⟩
   rw [ey]
   have ⟨Ly, Cy, Fy'⟩ := By
   have hk5 : Kept [] wr V5 := keptTrans ((Kept.refl _ _).call hb2) hkV
   have MV := Lib.hid (MR.out.kept hk5)
   have FV := Lib.hid (FR.out.trans (Fy.kept K O1 G1 s1 hk5))
   have HQV : Hid (SInO O1 V5 qA qn qc (ofNats r)) := Lib.hid ((SInO.new (O := O1) hq2 hfq2 (fun x hx => (MR.out.og x hx).2)).fx (.same hkV))
   have HRV : Hid (SIn V5 rA 0 rc []) := Lib.hid (hr2.kept hkV)
   have BV := MV.out.box
   unfold sbox at BV
   have ⟨LV, CV, FVb⟩ := BV
   clear CR FRb ey hq2 hr2 HRK HQC MR
   go_upto_region 3 with fail
   have hset := MV.out.set_queue HQV.out HRV.out
   refine wp_named (fun X => ∃ G2, Mem p K w0 b O1 G2 X (s1.setQ r) ∧ Fy K O1 O1 G1 G2 s1 (s1.setQ r) V5 X) ⟨_, hset⟩ ?_
   rintro X ⟨G2, MX', FX'⟩
   have MX := Lib.hid MX'
   have FXX := Lib.hid (FV.out.trans FX')
   have BX5 := MX.out.box
   unfold sbox at BX5
   have ⟨LX5, CX5, FX5⟩ := BX5
   obtain ⟨Ab, mb, cb, hpv, hmb⟩ : ∃ A9 m9 c9, G2.pv n = .slice A9 m9 c9 ∧ m9 = (s1.pd n).length := by
     rcases (MX.out.pown n hnK).2 with ⟨h1, h2⟩ | ⟨g', cap, cur, h1, _⟩
     · exact ⟨_, _, _, h1, h2.symm⟩
     · exact ⟨_, _, _, h1, rfl⟩
   have OWN : Hid (X.ownsRow w0.heap.size 101 2 (.slice Ab mb cb) mb (pcells (s1.pd n))) := Lib.hid (by have h9 := MX.out.pown n hnK; rw [hpv, show ((s1.setQ r).pd n).length = mb from hmb.symm] at h9; exact h9)
   have rP : X.cell? ⟨K.pr, n, none⟩ = some (.slice Ab mb cb) := by rw [← hpv]; exact MX.out.prow n hnK
   have fP := MX.out.ptag.frozen n
   have hprX : K.pr < X.heap.size := MX.out.ptag.lt
   obtain ⟨O3, G3, M3', F3', h3o⟩ := MX.out.set_nil (n := n) hnK
   have HSB2 : Hid (∀ a, Ab = some a → SafeB O3 (X.setCell ⟨K.pr, n, none⟩ (.slice none 0 0)) a.block ∧ a.block ≠ K.pr ∧ a.block < X.heap.size) := fun a ha => by
     have h1 : (G2.pv n).ownBlock = some a.block := by rw [hpv, ha]; rfl
     have h2 := (own_tag (MX.out.pown n hnK) h1).ne MX.out.ptag (by decide)
     have h4 := (MX.out.og _ (MX.out.opv n a.block hnK h1)).2
     exact ⟨⟨by simpa [World.setCell] using h4, fun ho => h3o _ ho h1⟩, h2, h4⟩
   have HMB := Lib.hid hmb
   have hmb20 : mb ≤ 1000000 := by
     have h1 := MX.out.pb n hnK
     have h2 := HWF.out.kb 4
     have h3 : (s1.setQ r).k 4 = s1.k 4 := rfl
     have h5 : ((s1.setQ r).pd n).length = (s1.pd n).length := rfl
     omega
   clear CV FVb Cy Fy' hset MX' FX' hmb hpv h3o
   go_upto_region 5 with fail
   refine wp_named (fun Y => Mem p K w0 b O3 G3 Y (popS s1 n r) ∧ Fy K O1 O3 G2 G3 (s1.setQ r) (popS s1 n r) X Y ∧ (∀ a, Ab = some a → SafeB O3 Y a.block) ∧ Kept [K.pr] X Y) ⟨M3', F3', fun a ha => (HSB2.out a ha).1, (Kept.refl _ _).set K.pr n _ (.inl (by simp))⟩ ?_
   rintro Y ⟨MY', FY', hSY, hkXY⟩
   have MY := Lib.hid MY'
   have FYY := Lib.hid (FXX.out.trans FY')
   have HSY := Lib.hid hSY
   have HPOP := Lib.hid (HJ.out.pop s1 n r JV.out HQE.out)
   have HBC : Hid (∀ i (h : i < (s1.pd n).length), ∃ bb, Ab = some ⟨bb, 0, none⟩ ∧ Y.cell? ⟨bb, i * 2, none⟩ = some (.int .i64 ((s1.pd n)[i].1 : Nat)) ∧ Y.cell? ⟨bb, i * 2 + 1, none⟩ = some (.int .i64 ((s1.pd n)[i].2 : Nat))) := fun i h => by
     rcases OWN.out.2 with ⟨h1, h2⟩ | ⟨g', cap, cur, h1, _⟩
     · have := HMB.out; omega
     · injection h1 with e1 e2 e3
       have h2 := HSB2.out _ e1
       obtain ⟨p1, p2⟩ := pcells_at (s1.pd n) h
       have q1 := OWN.out.cells (g := g') (by rw [e1]; rfl) _ _ p1
       have q2 := OWN.out.cells (g := g') (by rw [e1]; rfl) _ _ p2
       rw [add_lit, Nat.zero_add] at q1 q2
       exact ⟨g', e1, (hkXY.cell g' _ h2.2.2 (by simpa using h2.2.1)).trans q1, (hkXY.cell g' _ h2.2.2 (by simpa using h2.2.1)).trans q2⟩
   clear CX5 FX5 rP fP MY' FY' hSY hkXY M3' F3' HSB2 OWN MX FXX
   go_wp2_with fail
   go_loopw [40] (fun s40 wz => ∃ (i : Nat) (s2 : St) (O' : Nat → Prop) (G' : Gh), i ≤ mb ∧ s40 = .int .i64 i ∧ Hid (Mem p K w0 b O' G' wz s2) ∧ Hid (Fy K O O' G G' s s2 w wz) ∧ Hid (Fy K O3 O' G3 G' (popS s1 n r) s2 Y wz) ∧ Hid (J n ((s1.pd n).drop i) s2) ∧ Hid (mea p s2 ≤ mea p (popS s1 n r))) (fun s40 _ => mb - (intOf s40).toNat)
   case atStart => exact ⟨0, popS s1 n r, O3, G3, Nat.zero_le _, rfl, MY, FYY, Lib.hid (Fy.refl _ _ _ _ _), by rw [List.drop_zero]; exact HPOP, Nat.le_refl _⟩
   case round =>
   clear MY FYY
   rename World => wz
   obtain ⟨i, s2, O4, G4, hi, rfl, MZ, FZ0, FZ, JZ, LZ⟩ := hrel
   by_cases hlt : i < mb
   · have hi' : i < (s1.pd n).length := by rw [← HMB.out]; exact hlt
     obtain ⟨bb, rfl, c1', c2'⟩ := HBC.out i hi'
     have hsb := HSY.out _ rfl
     obtain ⟨a, d, had⟩ : ∃ a d, (s1.pd n)[i] = (a, d) := ⟨_, _, rfl⟩
     rw [had] at c1' c2'
     replace c1' := (hsb.cell FZ.out.fx (i * 2)).trans c1'
     replace c2' := (hsb.cell FZ.out.fx (i * 2 + 1)).trans c2'
     have hbz := (hsb.fx FZ.out.fx).1
     have hi1 : (i : Int) < (mb : Int) := by omega
     have HDR : Hid ((s1.pd n).drop i = (a, d) :: (s1.pd n).drop (i + 1)) := Lib.hid (by rw [List.drop_eq_getElem_cons hi', had])
     have HJJ : Hid (J n ((a, d) :: (s1.pd n).drop (i + 1)) s2) := Lib.hid (by have h1 := JZ.out; rw [HDR.out] at h1; exact h1)
     clear had
     go_upto_region 8 with fail
     refine wp_named (fun V => ∃ y, wz.heap.size = y ∧ Blk V y [.int .i64 a, .int .i64 d] ∧ Kept [] wz V) ⟨_, rfl, Blk.new _ _ _ _ rfl, (Kept.refl _ _).alloc _⟩ ?_
     rintro V7 ⟨y7, ey, By7, hkV7⟩
     rw [ey]
     have ⟨Ly7, Cy7, Fy7⟩ := By7
     have M7 := Lib.hid (MZ.out.kept hkV7)
     have F7 := Fy.kept K O4 G4 s2 hkV7
     have HDL : Hid (Calls Tryz.prog 78 #[.int .i64 n, .agg #[.int .i64 a, .int .i64 d], .pointer (some ⟨bs, 0, none⟩)] V7 (GetD p K w0 b O4 G4 V7 s2 (J n ((s1.pd n).drop (i + 1))))) := HD.out V7 O4 G4 s2 n a d _ M7.out HJJ.out (HSB.out.blk (FZ0.out.trans F7).fx HBS.out) (HSB.out.fx (FZ0.out.trans F7).fx)
     clear c1' c2' ey
     go_wp2_with (go_at_call 78; refine HDL.out.mono ?_; rintro e w8 ⟨s8, O8, G8, rfl, M8, F8, J8, L8⟩)
     exact ⟨⟨i + 1, s8, O8, G8, by omega, by go_num, M8, FZ0.out.trans (F7.trans F8), FZ.out.trans (F7.trans F8), J8, Nat.le_trans L8 LZ.out⟩, by simp [intOf]; omega⟩
   · obtain rfl : mb = i := by omega
     have HJE : Hid (J n [] s2) := by have h1 := JZ.out; rw [HMB.out, List.drop_length] at h1; exact h1
     have hpop := mea_pop (p := p) HQE.out
     have hlm : PM (mea p s2) wz := by
       rw [HPM.out]
       exact ⟨O4, G4, s2, MZ.out, FZ0.out, HJ.out.rest n s2 HJE.out, rfl⟩
     have hl2 := leastM_le hlm
     have HLM := Lib.hid hlm
     have HL2 := Lib.hid hl2
     have HPP := Lib.hid hpop
     clear hlm hl2 hpop
     go_wp2_with fail
     refine ⟨⟨_, HLM.out⟩, ?_⟩
     have h1 := HL2.out; have h2 := LZ.out; have h3 := HPP.out; have h4 := HME.out; have h5 := HLV.out
     omega
set_option maxRecDepth 100000 in
set_option maxHeartbeats 4000000 in
theorem deal1_any {p : Vb} {K : Kn} {w0 : World} {b bs : Nat} {O : Nat → Prop} {G : Gh} {s : St} (w : World) (n a d : Nat) (hI : Inp p K w0) (hgv : Gv w0) (ho : VOk p) (hf : VFit p) (hmu : mu0 p ≤ 1000000) (hg : Iv.Good p s) (hm : Mem p K w0 b O G w s) (hn : n < p.ns.length) (ha : a < p.F.toNat) (hd : d < p.F.toNat) (hxt : s.T n a d ≠ top) (hsdn : p.sd.length ≤ 1000000) (hbs : Blk w bs [.pointer (some ⟨b, 0, none⟩)]) :
   Calls Tryz.prog 78 #[.int .i64 n, .agg #[.int .i64 a, .int .i64 d], .pointer (some ⟨bs, 0, none⟩)] w (GetP p K w0 b O G w s fun t => Did p n a d (s.T n a d) t) := by
 have HM := Lib.hid hm
 have HG := Lib.hid hg
 have HI := Lib.hid hI
 have HGV := Lib.hid hgv
 have HO := Lib.hid ho
 have HFI := Lib.hid hf
 have HMU := Lib.hid hmu
 have HXT := Lib.hid hxt
 clear hm hg hI hgv ho hf hmu hxt
 go_enter Tryz.func78, Tryz.ntmps78
 go_upto_region 1 with fail
 refine wp_named (fun W => ∃ b0, w.heap.size = b0 ∧ Blk W b0 [.int .i64 a, .int .i64 d] ∧ Below w.heap.size w W) ⟨_, rfl, ?_, ?_⟩ ?_
 · exact kbn
 · go_grown
 rintro W ⟨b0, e0, B0, hB⟩
 rw [e0]
 have G0 : w.heap.size ≤ b0 := by omega
 clear e0
 have ⟨L0, C0, F0⟩ := B0
 have hkW : Kept [] w W := (Kept.refl _ _).call hB
 have ⟨LS, CS, FS⟩ := hkW.blk (by simp) hbs
 have HST : Hid (Calls Tryz.prog 79 #[.pointer (some ⟨b, 0, none⟩), .int .i64 n, .int .i64 a, .int .i64 d] W (GetP p K w0 b O G w s fun t => Did p n a d (s.T n a d) t)) := (step_any W n a d HI.out HGV.out HO.out HFI.out HMU.out HG.out (HM.out.kept hkW) hn ha hd HXT.out hsdn).mono (fun e w' h9 => h9.from hkW)
 go_wp2_with (go_at_call 79; refine HST.out.mono ?_; rintro e w9 ⟨s9, O9, G9, rfl, M9, F9, E9, D9⟩)
 go_end0
 exact ⟨s9, O9, G9, rfl, M9, F9, E9, D9⟩
def Tab (p : Vb) (n : Nat) (rest : List (Nat × Nat)) (s : St) : Prop := Inv p n rest s ∧ s.V = fun _ _ => topV
theorem tab_dr (p : Vb) : Dr p (Tab p) := ⟨fun _ _ _ h => h.1.good.wf, fun _ _ _ h hq => ⟨h.1.pop hq, h.2⟩, fun _ _ h => ⟨h.1.rest0 0, h.2⟩⟩
theorem drain1_ok {p : Vb} {K : Kn} {w0 : World} {b bs : Nat} {O : Nat → Prop} {G : Gh} {s : St} (w : World) (hI : Inp p K w0) (hgv : Gv w0) (ho : VOk p) (hf : VFit p) (hmu : mu0 p ≤ 1000000) (hm : Mem p K w0 b O G w s) (hj : Tab p 0 [] s) (hsdn : p.sd.length ≤ 1000000) (hbs : Blk w bs [.pointer (some ⟨b, 0, none⟩)]) (hsb : SafeB O w bs) :
  Calls Tryz.prog 77 #[.pointer (some ⟨b, 0, none⟩), .func (.func 78) #[] #[.pointer (some ⟨bs, 0, none⟩)]] w (fun e w' => ∃ s' O' G', e = .returned (.tuple #[]) ∧ Mem p K w0 b O' G' w' s' ∧ Fy K O O' G G' s s' w w' ∧ Tab p 0 [] s' ∧ s'.q = []) :=
 drain1_any w (Tab p) (tab_dr p) hI.nd.1.symm (If.sup_parts ho.sup).1 hmu hm hj hbs hsb (fun w9 O9 G9 s9 n a d rest hm9 hj9 hb9 _ => by
  have hr := hj9.1.rst (a, d) (by simp)
  refine (deal1_any w9 n a d hI hgv ho hf hmu hj9.1.good hm9 hr.1 hr.2.1 hr.2.2.1 hr.2.2.2 hsdn hb9).mono ?_
  rintro e w' ⟨s', O', G', he, hm', hf', hx', hd'⟩
  exact ⟨s', O', G', he, hm', hf', ⟨hj9.1.step ho hx'.gw hx'.good hd', hx'.gw.V.trans hj9.2⟩, hx'.mea⟩)
end Go.Proofs.YtincpmdldpakkaaGreatDoor
namespace Go.Df
open Go.RowKit
namespace Iv
open Sp
def St.low (s : St) (n a : Nat) (v : U) : St :=
 if meetV (s.V n a) v = s.V n a then s else ((s.setV n a (meetV (s.V n a) v)).setQ (if s.pd n = [] then s.q ++ [n] else s.q)).setP n (s.pd n ++ [(a, a)])
structure GwV (s t : St) : Prop where
 le : ∀ n a, leV (t.V n a) (s.V n a)
 new : ∀ n a, t.V n a ≠ s.V n a → (a, a) ∈ t.pd n
 pd : ∀ n x, x ∈ s.pd n → x ∈ t.pd n
 T : t.T = s.T
 ls : t.ls = s.ls
theorem GwV.refl (s : St) : GwV s s := ⟨fun _ _ => leV_refl _, fun _ _ h => absurd rfl h, fun _ _ h => h, rfl, rfl⟩
theorem GwV.trans {s t u : St} (h : GwV s t) (g : GwV t u) : GwV s u := by
 refine ⟨fun n a => leV_trans (g.le n a) (h.le n a), fun n a hn => ?_, fun n x hx => g.pd n x (h.pd n x hx), g.T.trans h.T, g.ls.trans h.ls⟩
 by_cases e : u.V n a = t.V n a
 ·rw [e] at hn; exact g.pd n _ (h.new n a hn)
 ·exact g.new n a e
section
variable {p : Vb} {s t : St} {n a : Nat} {v : U}
theorem low_at (s : St) (n a : Nat) (v : U) : (s.low n a v).V n a = meetV (s.V n a) v := by
 unfold St.low
 split
 ·rename_i h; exact h.symm
 ·show (if n = n ∧ a = a then _ else _) = _
  rw [if_pos ⟨rfl, rfl⟩]
theorem low_ne (s : St) (v : U) {n' a' : Nat} (h : ¬ (n' = n ∧ a' = a)) : (s.low n a v).V n' a' = s.V n' a' := by
 unfold St.low
 split
 ·rfl
 ·exact if_neg h
theorem low_le (s : St) (n a : Nat) (v : U) : leV ((s.low n a v).V n a) v := by rw [low_at]; exact meetV_le_right _ _
theorem low_gw (s : St) (n a : Nat) (v : U) : GwV s (s.low n a v) := by
 refine ⟨fun n' a' => ?_, fun n' a' hne => ?_, fun n' y hy => ?_, ?_, ?_⟩
 ·by_cases e : n' = n ∧ a' = a
  ·obtain ⟨rfl, rfl⟩ := e; rw [low_at]; exact meetV_le_left _ _
  ·rw [low_ne s v e]; exact leV_refl _
 ·have e : n' = n ∧ a' = a := Classical.byContradiction fun e => hne (low_ne s v e)
  obtain ⟨rfl, rfl⟩ := e
  have h0 : ¬ meetV (s.V n' a') v = s.V n' a' := fun h => hne (by rw [low_at]; exact h)
  unfold St.low
  rw [if_neg h0]
  show (a', a') ∈ if n' = n' then _ else _
  rw [if_pos rfl]
  exact List.mem_append.2 (.inr (by simp))
 ·unfold St.low
  split
  ·exact hy
  ·show y ∈ if n' = n then _ else _
   split
   ·rename_i e; subst e; exact List.mem_append.2 (.inl hy)
   ·exact hy
 ·unfold St.low; split <;> rfl
 ·unfold St.low; split <;> rfl
theorem low_mu (hn : n < p.ns.length) (ha : a < p.F.toNat) (h : meetV (s.V n a) v ≠ s.V n a) : mu p (s.low n a v) + 1 ≤ mu p s := by
 have h1 : muV p (s.low n a v).V < muV p s.V := by
  refine sum_lt (y := (n, a)) ?_ _ (fun y _ => ?_) (mem_duo.2 ⟨hn, ha⟩)
  ·show stpV ((s.low n a v).V n a) < stpV (s.V n a)
   rw [low_at]
   exact stpV_meet _ _ h
  ·show stpV ((s.low n a v).V y.1 y.2) ≤ stpV (s.V y.1 y.2)
   by_cases e : y.1 = n ∧ y.2 = a
   ·rw [e.1, e.2, low_at]; exact Nat.le_of_lt (stpV_meet _ _ h)
   ·rw [low_ne s v e]; exact Nat.le_refl _
 have h2 : (s.low n a v).T = s.T := (low_gw s n a v).T
 unfold mu
 rw [h2]
 omega
theorem low_eq (h : meetV (s.V n a) v ≠ s.V n a) : s.low n a v = ((s.setV n a (meetV (s.V n a) v)).setQ (if s.pd n = [] then s.q ++ [n] else s.q)).setP n (s.pd n ++ [(a, a)]) := by unfold St.low; rw [if_neg h]
theorem low_id (h : meetV (s.V n a) v = s.V n a) : s.low n a v = s := by unfold St.low; rw [if_pos h]
theorem low_mea (hn : n < p.ns.length) (ha : a < p.F.toNat) : mea p (s.low n a v) ≤ mea p s := by
 by_cases h : meetV (s.V n a) v = s.V n a
 ·rw [low_id h]; exact Nat.le_refl _
 ·have h1 := low_mu (p := p) hn ha h
  have h2 : (s.low n a v).q.length ≤ s.q.length + 1 := by
   rw [low_eq h]
   show (if s.pd n = [] then s.q ++ [n] else s.q).length ≤ _
   split
   ·simp
   ·omega
  unfold mea
  omega
theorem low_wf (hw : Wf p s) (hn : n < p.ns.length) (ha : a < p.F.toNat) : Wf p (s.low n a v) := by
 by_cases h : meetV (s.V n a) v = s.V n a
 ·rw [low_id h]; exact hw
 have hmu := low_mu (p := p) hn ha h
 have e := low_eq h
 refine ⟨fun n' a' d' h9 => ?_, fun n' a' d' => ?_, fun n' a' d' => ?_, fun i n' a' hi => ?_, ?_, fun n' => ?_, fun n' y hy => ?_, fun i => ?_⟩
 ·rw [(low_gw s n a v).T] at h9; exact hw.rng _ _ _ h9
 ·rw [(low_gw s n a v).T, (low_gw s n a v).ls]; exact hw.l1 _ _ _
 ·rw [(low_gw s n a v).T, (low_gw s n a v).ls]; exact hw.l2 _ _ _
 ·rw [(low_gw s n a v).ls]; exact hw.ln i n' a' hi
 ·rw [e]
  show (if s.pd n = [] then s.q ++ [n] else s.q).Nodup
  split
  ·rename_i e2
   rw [List.nodup_append]
   refine ⟨hw.qn, by simp, fun y hy z hz => ?_⟩
   obtain rfl := List.mem_singleton.1 hz
   rintro rfl
   exact (hw.qp _).1 hy e2
  ·exact hw.qn
 ·rw [e]
  show n' ∈ (if s.pd n = [] then s.q ++ [n] else s.q) ↔ (if n' = n then s.pd n ++ [(a, a)] else s.pd n') ≠ []
  by_cases e1 : n' = n
  ·subst e1
   rw [if_pos rfl]
   split
   ·simp
   ·rename_i e2; simp [(hw.qp n').2 e2]
  ·rw [if_neg e1]
   split
   ·rw [List.mem_append, hw.qp]; simp [e1]
   ·exact hw.qp _
 ·rw [e] at hy
  have hy : y ∈ (if n' = n then s.pd n ++ [(a, a)] else s.pd n') := hy
  split at hy
  ·rename_i e1
   subst e1
   rcases List.mem_append.1 hy with hy | hy
   ·exact hw.pr _ _ hy
   ·obtain rfl := List.mem_singleton.1 hy
    exact ⟨hn, ha, ha⟩
  ·exact hw.pr _ _ hy
 ·have h1 := hw.kb i
  have h2 : (s.low n a v).k i ≤ s.k i + 1 := by
   rw [e]
   show bump (bump s.k 3) 4 i ≤ _
   unfold bump
   by_cases e4 : i = 4
   ·subst e4; simp
   ·rw [if_neg e4]
    split <;> omega
  omega
end
structure GoodV (p : Vb) (T : Nat → Nat → Nat → D) (s : St) : Prop where
 wf : Wf p s
 eT : s.T = T
 snd : VSnd p T s.V
theorem GoodV.low {p : Vb} {T : Nat → Nat → Nat → D} {s : St} (h : GoodV p T s) {n a : Nat} {v : U} (hn : n < p.ns.length) (ha : a < p.F.toNat) (hv : ∀ Y, VClo p T Y → leV (Y n a) v) : GoodV p T (s.low n a v) := by
 refine ⟨low_wf h.wf hn ha, (low_gw s n a v).T.trans h.eT, fun Y hY n' a' => ?_⟩
 by_cases e : n' = n ∧ a' = a
 ·obtain ⟨rfl, rfl⟩ := e
  rw [low_at]
  exact le_meetV (h.snd Y hY _ _) (hv Y hY)
 ·rw [low_ne s v e]
  exact h.snd Y hY _ _
structure ExV (p : Vb) (T : Nat → Nat → Nat → D) (s t : St) : Prop where
 gw : GwV s t
 good : GoodV p T t
 mea : mea p t ≤ mea p s
theorem ExV.refl {p : Vb} {T : Nat → Nat → Nat → D} {s : St} (h : GoodV p T s) : ExV p T s s := ⟨GwV.refl s, h, Nat.le_refl _⟩
theorem ExV.trans {p : Vb} {T : Nat → Nat → Nat → D} {s t u : St} (h : ExV p T s t) (k : ExV p T t u) : ExV p T s u := ⟨h.gw.trans k.gw, k.good, Nat.le_trans k.mea h.mea⟩
theorem ExV.low {p : Vb} {T : Nat → Nat → Nat → D} {s : St} (h : GoodV p T s) {n a : Nat} {v : U} (hn : n < p.ns.length) (ha : a < p.F.toNat) (hv : ∀ Y, VClo p T Y → leV (Y n a) v) : ExV p T s (s.low n a v) := ⟨low_gw s n a v, h.low hn ha hv, low_mea hn ha⟩
structure InvV (p : Vb) (T : Nat → Nat → Nat → D) (n0 : Nat) (rest : List (Nat × Nat)) (s : St) : Prop where
 good : GoodV p T s
 rst : ∀ x ∈ rest, n0 < p.ns.length ∧ x.1 < p.F.toNat
 main : leV (s.V p.mn.toNat 0) botV
 call : ∀ k, k < p.es.length → (ge p.es k).k = 2 → ∀ q ∈ gl p.fl k, ∀ a, (∃ c, Pen n0 rest s (If.stOf p.ns (ge p.es k).a.toNat) (a, c)) ∨ leV (s.V (ge p.es k).b.toNat q.o.toNat) (app (comp (T (ge p.es k).a.toNat a q.i.toNat) (xd q)) (s.V (If.stOf p.ns (ge p.es k).a.toNat) a))
def DidV (p : Vb) (T : Nat → Nat → Nat → D) (n a : Nat) (v : U) (t : St) : Prop := ∀ k, k < p.es.length → (ge p.es k).k = 2 → If.stOf p.ns (ge p.es k).a.toNat = n → ∀ q ∈ gl p.fl k, leV (t.V (ge p.es k).b.toNat q.o.toNat) (app (comp (T (ge p.es k).a.toNat a q.i.toNat) (xd q)) v)
section
variable {p : Vb} {T : Nat → Nat → Nat → D} {s t : St} {n0 : Nat} {rest : List (Nat × Nat)}
theorem InvV.step {n a c : Nat} (h : InvV p T n ((a, c) :: rest) s) (g : GwV s t) (hg : GoodV p T t) (hd : DidV p T n a (s.V n a) t) : InvV p T n rest t := by
 have keep : ∀ {m : Nat} {x : Nat × Nat}, x ∈ s.pd m → Pen n rest t m x := fun hx => .inl (g.pd _ _ hx)
 refine ⟨hg, fun x hx => h.rst x (List.mem_cons_of_mem _ hx), leV_trans (g.le _ _) h.main, fun k hk h2 q hq a' => ?_⟩
 by_cases e : t.V (If.stOf p.ns (ge p.es k).a.toNat) a' = s.V (If.stOf p.ns (ge p.es k).a.toNat) a'
 ·rcases h.call k hk h2 q hq a' with ⟨c', hp⟩ | hp
  ·rcases hp with hp | ⟨e1, hp⟩
   ·exact .inl ⟨c', keep hp⟩
   ·rcases List.mem_cons.1 hp with hp | hp
    ·injection hp with e2 e3
     right
     rw [e, e2, e1]
     have h9 := hd k hk h2 e1 q hq
     exact h9
    ·exact .inl ⟨c', .inr ⟨e1, hp⟩⟩
  ·right
   rw [e]
   exact leV_trans (g.le _ _) hp
 ·exact .inl ⟨a', .inl (g.new _ _ e)⟩
theorem InvV.pop (h : InvV p T n0 [] s) {n : Nat} {r : List Nat} (hq : s.q = n :: r) : InvV p T n (s.pd n) (popS s n r) := by
 refine ⟨⟨h.good.wf.pop hq, h.good.eT, h.good.snd⟩, fun x hx => ⟨(h.good.wf.pr n x hx).1, (h.good.wf.pr n x hx).2.1⟩, h.main, fun k hk h2 q hq' a => ?_⟩
 rcases h.call k hk h2 q hq' a with ⟨c, hp⟩ | hp
 ·left
  refine ⟨c, ?_⟩
  rcases hp with hp | ⟨_, hp⟩
  ·by_cases e : If.stOf p.ns (ge p.es k).a.toNat = n
   ·exact .inr ⟨e, by rw [← e]; exact hp⟩
   ·refine .inl ?_
    show _ ∈ if _ = n then [] else s.pd _
    rw [if_neg e]
    exact hp
  ·cases hp
 ·exact .inr hp
theorem InvV.rest0 {n : Nat} (h : InvV p T n [] s) (m : Nat) : InvV p T m [] s :=
 ⟨h.good, (fun x hx => by cases hx), h.main, fun k hk h2 q hq a => (h.call k hk h2 q hq a).imp (fun ⟨c, hp⟩ => ⟨c, hp.imp id (fun h9 => by cases h9.2)⟩) id⟩
theorem InvV.done (h : InvV p T n0 [] s) (hq : s.q = []) : VClo p T s.V := by
 have no : ∀ {m : Nat} {x : Nat × Nat}, ¬ Pen n0 [] s m x := fun {m x} hp => by
  rcases hp with hp | ⟨_, hp⟩
  ·have h1 : s.pd m ≠ [] := fun e => by rw [e] at hp; cases hp
   have h2 := (h.good.wf.qp m).2 h1
   rw [hq] at h2
   cases h2
  ·cases hp
 exact ⟨h.main, fun k hk h2 q hq' a => (h.call k hk h2 q hq' a).resolve_left (fun ⟨_, hp⟩ => no hp)⟩
theorem initV (hw : Wf p s) (hT : s.T = T) (hV : s.V = fun _ _ => topV) (hn : p.mn.toNat < p.ns.length) (hF : 0 < p.F.toNat) : InvV p T 0 [] (s.low p.mn.toNat 0 botV) := by
 have g0 : GoodV p T s := ⟨hw, hT, fun Y _ n a => by rw [hV]; exact leV_top _⟩
 refine ⟨g0.low hn hF (fun Y hY => hY.main), (fun x hx => by cases hx), low_le _ _ _ _, fun k hk h2 q hq a => ?_⟩
 by_cases e : (s.low p.mn.toNat 0 botV).V (If.stOf p.ns (ge p.es k).a.toNat) a = s.V (If.stOf p.ns (ge p.es k).a.toNat) a
 ·right
  rw [e, hV, app_topV]
  exact leV_top _
 ·exact .inl ⟨a, .inl ((low_gw s _ _ _).new _ _ e)⟩
end
end Iv
end Go.Df
namespace Go.Df
open Go.RowKit
structure ObjT (w : World) (t : Nat → Nat) (g : Nat) (o : Obj) (m : Nat) : Prop where
 heap : w.heap[g]? = some o
 tag : t g = m
theorem ObjT.lt {w : World} {t : Nat → Nat} {g m : Nat} {o : Obj} (h : ObjT w t g o m) : g < w.heap.size := (Array.getElem?_eq_some_iff.1 h.heap).1
theorem ObjT.grow {w w' : World} {t t' : Nat → Nat} {g m : Nat} {o : Obj} (h : ObjT w t g o m) (hg : Grow w t w' t') : ObjT w' t' g o m := ⟨(hg.1.block g h.lt (by simp)).trans h.heap, (hg.2 g h.lt).trans h.tag⟩
theorem ObjT.ne {w : World} {t : Nat → Nat} {g g' m m' : Nat} {o o' : Obj} (h : ObjT w t g o m) (h' : ObjT w t g' o' m') (hm : m ≠ m') : g ≠ g' := fun e => hm (by rw [← h.tag, ← h'.tag, e])
theorem ObjT.new (w : World) (t : Nat → Nat) (o : Obj) (m : Nat) : ObjT (w.alloc o) (Go.Df.mark t w.heap.size m) w.heap.size o m := ⟨heap_alloc_new w o, mark_same _ _ _⟩
theorem ObjT.at {w : World} {t : Nat → Nat} {g m : Nat} {o : Obj} (h : w.heap[g]? = some o) : ObjT w (Go.Df.mark t g m) g o m := ⟨h, mark_same _ _ _⟩
end Go.Df
namespace Go.Proofs.YtincpmdldpakkaaGreatDoor
open Go.RowKit Go.Df
attribute [local go_sem ↓] Go.wp_at_zero Go.wp_at_succ
theorem newX_info : (Tryz.prog.info? 84).map (fun i => (i.zero, i.size, i.bytes)) = some (some (.map none), 1, 8) := by kernel_rfl
set_option maxRecDepth 100000 in
set_option maxHeartbeats 4000000 in
theorem newX_any (n : Nat) (w : World) (hn : n ≤ 1000000) (M : Array Value) (hM : (List.replicate n (Value.map none)).toArray = M) :
   Calls Tryz.prog 129 #[.int .i64 n] w fun e w' => ∃ g, e = .returned (.agg #[.slice (some ⟨g, 0, none⟩) n n]) ∧ w'.heap[g]? = some (.cells M 84 (0, 0)) ∧ w.heap.size ≤ g ∧ Below w.heap.size w w' := by
 obtain ⟨i0, hi, hz0, hz1, hz2⟩ := info_parts newX_info
 have hmk := fun w => run_make1 (P := Tryz.prog) Tryz.underlying85 hi hz0 hz1 hz2 rfl n (by omega) (by omega) M hM w
 have HM := Lib.hid hM
 clear hM
 go_enter Tryz.func129, Tryz.ntmps129
 go_wp2
 go_returns
 refine ⟨w.heap.size + 1, rfl, ?_, by omega, (((Kept.refl [] w).alloc _).alloc _).toBelow⟩
 have h1 := heap_alloc_new (w.alloc (.cells #[.slice (some ⟨w.heap.size + 1, 0, none⟩) n n] 87)) (.cells M 84)
 simpa using h1
theorem newL_info : (Tryz.prog.info? 233).map (fun i => (i.zero, i.size, i.bytes)) = some (some (.map none), 1, 8) := by kernel_rfl
set_option maxRecDepth 100000 in
set_option maxHeartbeats 4000000 in
theorem newL_any (n : Nat) (w : World) (hn : n ≤ 1000000) (M : Array Value) (hM : (List.replicate n (Value.map none)).toArray = M) :
   Calls Tryz.prog 130 #[.int .i64 n] w fun e w' => ∃ g, e = .returned (.agg #[.slice (some ⟨g, 0, none⟩) n n]) ∧ w'.heap[g]? = some (.cells M 233 (0, 0)) ∧ w.heap.size ≤ g ∧ Below w.heap.size w w' := by
 obtain ⟨i0, hi, hz0, hz1, hz2⟩ := info_parts newL_info
 have hmk := fun w => run_make1 (P := Tryz.prog) Tryz.underlying89 hi hz0 hz1 hz2 rfl n (by omega) (by omega) M hM w
 have HM := Lib.hid hM
 clear hM
 go_enter Tryz.func130, Tryz.ntmps130
 go_wp2
 go_returns
 refine ⟨w.heap.size + 1, rfl, ?_, by omega, (((Kept.refl [] w).alloc _).alloc _).toBelow⟩
 have h1 := heap_alloc_new (w.alloc (.cells #[.slice (some ⟨w.heap.size + 1, 0, none⟩) n n] 91)) (.cells M 233)
 simpa using h1
theorem newV_info : (Tryz.prog.info? 179).map (fun i => (i.zero, i.size, i.bytes)) = some (some (.map none), 1, 8) := by kernel_rfl
set_option maxRecDepth 100000 in
set_option maxHeartbeats 4000000 in
theorem newV_any (n : Nat) (w : World) (hn : n ≤ 1000000) (M : Array Value) (hM : (List.replicate n (Value.map none)).toArray = M) :
   Calls Tryz.prog 131 #[.int .i64 n] w fun e w' => ∃ g, e = .returned (.agg #[.slice (some ⟨g, 0, none⟩) n n]) ∧ w'.heap[g]? = some (.cells M 179 (0, 0)) ∧ w.heap.size ≤ g ∧ Below w.heap.size w w' := by
 obtain ⟨i0, hi, hz0, hz1, hz2⟩ := info_parts newV_info
 have hmk := fun w => run_make1 (P := Tryz.prog) Tryz.underlying92 hi hz0 hz1 hz2 rfl n (by omega) (by omega) M hM w
 have HM := Lib.hid hM
 clear hM
 go_enter Tryz.func131, Tryz.ntmps131
 go_wp2
 go_returns
 refine ⟨w.heap.size + 1, rfl, ?_, by omega, (((Kept.refl [] w).alloc _).alloc _).toBelow⟩
 have h1 := heap_alloc_new (w.alloc (.cells #[.slice (some ⟨w.heap.size + 1, 0, none⟩) n n] 94)) (.cells M 179)
 simpa using h1
end Go.Proofs.YtincpmdldpakkaaGreatDoor
namespace Go.Df
open Go.RowKit
theorem made_two (v : Value) (n : Nat) : madeCells #[v, v] n = (List.replicate n v).toArray := by
 apply Array.ext_getElem?
 intro j
 rcases Nat.lt_or_ge j n with h | h
 ·have h2 : j % 2 = 0 ∨ j % 2 = 1 := by omega
  rcases h2 with h2 | h2 <;> simp [madeCells, h, h2]
 ·simp [madeCells, h]
theorem run_make2 {P : Program} {t e : TypeId} {i : TypeInfo} {z v : Value} {bytes : Nat} (ht : P.underlying t = some (.slice e)) (hi : P.info? e = some i) (hz : i.zero = some z) (hsize : i.size = 2) (hby : i.bytes = bytes) (hzc : z.cells = #[v, v]) (n : Nat) (hbytes : bytes * n ≤ 281474976710656) (h63 : n ≤ 9223372036854775807) (M : Array Value) (hM : (List.replicate (n * 2) v).toArray = M) (w : World) :
  (Instr.makeSlice t (.int .i64 (n : Int)) (.int .i64 (n : Int))).run P w = .ok (.slice (some ⟨w.heap.size, 0, none⟩) n n) (w.alloc (.cells M e)) := by
 subst hby
 have hrun := run_make (P := P) w t e i z ht hi hz .i64 .i64 (n : Int) (n : Int) (by omega) (Int.le_refl _) (by rw [← Int.natCast_mul]; omega) (by omega)
 simp only [Int.toNat_natCast, hsize, hzc, made_two, hM] at hrun
 exact hrun
namespace Iv
open Sp
def Vr (w : World) (g f : Nat) (v : Nat → U) : Prop := g < w.heap.size ∧ (∀ a, a < f → w.cell? ⟨g, a * 2, none⟩ = some (.int .i64 (v a).1.k) ∧ w.cell? ⟨g, a * 2 + 1, none⟩ = some (.int .i64 (v a).1.n)) ∧ ∀ i, w.frozen? ⟨g, i, none⟩ = false
theorem Vr.kept {w w' : World} {g f : Nat} {v : Nat → U} {X : List Nat} (h : Vr w g f v) (hk : Kept X w w') (hg : g ∉ X) : Vr w' g f v :=
 ⟨Nat.lt_of_lt_of_le h.1 hk.size, fun a ha => ⟨(hk.cell g _ h.1 hg).trans (h.2.1 a ha).1, (hk.cell g _ h.1 hg).trans (h.2.1 a ha).2⟩, fun i => (hk.frozen g i h.1 hg).trans (h.2.2 i)⟩
theorem Vr.put {w : World} {g f : Nat} {v : Nat → U} (h : Vr w g f v) {d : Nat} (hd : d < f) (y : U) {i : Nat} (hi : i = d * 2) :
  Vr ((w.setCell ⟨g, i, none⟩ (.int .i64 y.1.k)).setCell ⟨g, i + 1, none⟩ (.int .i64 y.1.n)) g f (fun a => if a = d then y else v a) := by
 subst hi
 have hc := h.2.1 d hd
 refine ⟨by simpa [World.setCell] using h.1, fun a ha => ?_, fun i => by simpa using h.2.2 i⟩
 by_cases e : a = d
 ·subst e
  dsimp only
  rw [if_pos rfl]
  have s1 := set_same (v := .int .i64 y.1.k) hc.1
  have c2 : (w.setCell ⟨g, a * 2, none⟩ (.int .i64 y.1.k)).cell? ⟨g, a * 2 + 1, none⟩ = some (.int .i64 (v a).1.n) := (set_other (.inr (by omega))).trans hc.2
  have s2 := set_same (v := .int .i64 y.1.n) c2
  exact ⟨by rw [set_other (.inr (by omega))]; exact s1, s2⟩
 ·dsimp only
  rw [if_neg e]
  have key : ∀ (w : World) (v : Value) (x z : Nat), x < 2 → z < 2 → (w.setCell ⟨g, d * 2 + x, none⟩ v).cell? ⟨g, a * 2 + z, none⟩ = w.cell? ⟨g, a * 2 + z, none⟩ := fun w v x z hx hz => set_other (.inr (by omega))
  have hca := h.2.1 a ha
  exact ⟨((key _ (.int .i64 y.1.n) 1 0 (by omega) (by omega)).trans (key w (.int .i64 y.1.k) 0 0 (by omega) (by omega))).trans hca.1,
   ((key _ (.int .i64 y.1.n) 1 1 (by omega) (by omega)).trans (key w (.int .i64 y.1.k) 0 1 (by omega) (by omega))).trans hca.2⟩
theorem Vr.made {w : World} {g f : Nat} {M : Array Value} {t : TypeId} (h : w.heap[g]? = some (.cells M t (0, 0))) (hM : (List.replicate (f * 2) (Value.int .i64 0)).toArray = M) : Vr w g f (fun _ => topV) := by
 refine ⟨(Array.getElem?_eq_some_iff.1 h).1, fun a ha => ⟨?_, ?_⟩, fun i => by simp [World.frozen?, h]⟩
 ·have h9 := rep_at (v := Value.int .i64 0) (n := f * 2) (i := a * 2) (by omega)
  rw [hM] at h9
  show _ = some (Value.int .i64 0)
  simpa [World.cell?, h] using h9
 ·have h9 := rep_at (v := Value.int .i64 0) (n := f * 2) (i := a * 2 + 1) (by omega)
  rw [hM] at h9
  show _ = some (Value.int .i64 0)
  simpa [World.cell?, h] using h9
structure Vo (N f i base : Nat) (w : World) (go : Nat) (rw : Nat → Nat) (S : Nat → Nat → U) : Prop where
 glt : go < w.heap.size
 gb : go < base
 gfr : ∀ x, w.frozen? ⟨go, x, none⟩ = false
 row : ∀ n, n < i → w.cell? ⟨go, n, none⟩ = some (.slice (some ⟨rw n, 0, none⟩) f f)
 nil : ∀ n, i ≤ n → n < N → w.cell? ⟨go, n, none⟩ = some (.slice none 0 0)
 r : ∀ n, n < i → Vr w (rw n) f (S n)
 rb : ∀ n, n < i → base ≤ rw n
 inj : ∀ n m, n < i → m < i → rw n = rw m → n = m
section
variable {N f i base : Nat} {w w' : World} {go : Nat} {rw : Nat → Nat} {S : Nat → Nat → U}
theorem Vo.kept {X : List Nat} (h : Vo N f i base w go rw S) (hk : Kept X w w') (hg : go ∉ X) (hX : ∀ n, n < i → rw n ∉ X) : Vo N f i base w' go rw S :=
 ⟨Nat.lt_of_lt_of_le h.glt hk.size, h.gb, fun x => (hk.frozen go x h.glt hg).trans (h.gfr x), fun n hn => (hk.cell go n h.glt hg).trans (h.row n hn), fun n h1 h2 => (hk.cell go n h.glt hg).trans (h.nil n h1 h2), fun n hn => (h.r n hn).kept hk (hX n hn), h.rb, h.inj⟩
theorem Vo.over {u : World} {X : List Nat} (h : Vo N f i base u go rw S) (hk : Kept X u w') (hX : ∀ x ∈ X, u.heap.size ≤ x) : Vo N f i base w' go rw S :=
 h.kept hk (fun hm => by have := hX go hm; have := h.glt; omega) (fun n hn hm => by have := hX _ hm; have := (h.r n hn).1; omega)
theorem Vo.snoc (h : Vo N f i base w go rw S) (hi : i < N) {g : Nat} (hg : base ≤ g) (hr : Vr w g f (S i)) (hfr : ∀ n, n < i → rw n ≠ g) :
  Vo N f (i + 1) base (w.setCell ⟨go, i, none⟩ (.slice (some ⟨g, 0, none⟩) f f)) go (updN rw i g) S := by
 have hgb := h.gb
 have hk : Kept [go] w (w.setCell ⟨go, i, none⟩ (.slice (some ⟨g, 0, none⟩) f f)) := (Kept.refl [go] w).set go i _ (.inl (by simp))
 have e1 : ∀ n, n < i → updN rw i g n = rw n := fun n hn => by unfold updN; rw [if_neg (by omega)]
 have e2 : updN rw i g i = g := by unfold updN; rw [if_pos rfl]
 refine ⟨by simpa [World.setCell] using h.glt, hgb, fun x => by simpa using h.gfr x, fun n hn => ?_, fun n h1 h2 => ?_, fun n hn => ?_, fun n hn => ?_, fun n m hn hm e => ?_⟩
 ·by_cases e : n = i
  ·subst e
   rw [e2]
   exact set_same (h.nil n (Nat.le_refl _) hi)
  ·rw [e1 n (by omega), set_other (.inr (by simpa using fun e' => e e'.symm))]
   exact h.row n (by omega)
 ·rw [set_other (.inr (by simp; omega))]
  exact h.nil n (by omega) h2
 ·by_cases e : n = i
  ·subst e
   rw [e2]
   exact hr.kept hk (by simp; omega)
  ·rw [e1 n (by omega)]
   exact (h.r n (by omega)).kept hk (by have := h.rb n (by omega); simp; omega)
 ·by_cases e : n = i
  ·subst e
   rw [e2]
   exact hg
  ·rw [e1 n (by omega)]
   exact h.rb n (by omega)
 ·by_cases e3 : n = i
  ·subst e3
   by_cases e4 : m = n
   ·exact e4.symm
   ·rw [e2, e1 m (by omega)] at e
    exact absurd e.symm (hfr m (by omega))
  ·by_cases e4 : m = i
   ·subst e4
    rw [e2, e1 n (by omega)] at e
    exact absurd e (hfr n (by omega))
   ·rw [e1 n (by omega), e1 m (by omega)] at e
    exact h.inj n m (by omega) (by omega) e
theorem Vo.vw (h : Vo N f N base w go rw S) : Vw N f w go rw (fun _ => f) S :=
 ⟨h.glt, h.row, fun n a hn ha => (h.r n hn).2.1 a ha, fun n i hn => (h.r n hn).2.2 i, fun n hn => (h.r n hn).1, h.inj, fun n hn => by have := h.gb; have := h.rb n hn; omega⟩
end
def Gr (p : Vb) (T : Nat → Nat → Nat → D) (V : Nat → Nat → U) (n f : Nat) (C : Value → Prop) (v : Nat → U) : Prop :=
 ∀ d, d < f → Glb (fun u => ∃ a, T n a d ≠ top ∧ C (pv2 a d) ∧ u = app (T n a d) (V (If.stOf p.ns n) a)) (v d)
section
variable {p : Vb} {T : Nat → Nat → Nat → D} {V : Nat → Nat → U} {n f : Nat} {C C' : Value → Prop} {v : Nat → U}
theorem Gr.init (h : ∀ a d, C (pv2 a d) → T n a d = top) : Gr p T V n f C (fun _ => topV) := fun d _ =>
 Glb.none (fun _ ⟨a, h1, h2, _⟩ => h1 (h a d h2))
theorem Gr.step (h : Gr p T V n f C v) {a d : Nat} (hC : ∀ key, C' key ↔ (C key ∨ key = pv2 a d)) (hT : T n a d ≠ top) (hd : d < f) :
  Gr p T V n f C' (fun x => if x = d then meetV (v d) (app (T n a d) (V (If.stOf p.ns n) a)) else v x) := fun x hx => by
 by_cases e : x = d
 ·subst e
  dsimp only
  rw [if_pos rfl]
  refine (h x hx).add (fun u => ?_)
  constructor
  ·rintro ⟨a', h1, h2, h3⟩
   rcases (hC _).1 h2 with h4 | h4
   ·exact .inl ⟨a', h1, h4, h3⟩
   ·obtain ⟨rfl, -⟩ := pv2_inj h4
    exact .inr h3
  ·rintro (⟨a', h1, h2, h3⟩ | h1)
   ·exact ⟨a', h1, (hC _).2 (.inl h2), h3⟩
   ·exact ⟨a, hT, (hC _).2 (.inr rfl), h1⟩
 ·dsimp only
  rw [if_neg e]
  refine (h x hx).iff (fun u => ?_)
  constructor
  ·rintro ⟨a', h1, h2, h3⟩
   rcases (hC _).1 h2 with h4 | h4
   ·exact ⟨a', h1, h4, h3⟩
   ·exact absurd (pv2_inj h4).2 e
  ·rintro ⟨a', h1, h2, h3⟩
   exact ⟨a', h1, (hC _).2 (.inl h2), h3⟩
theorem Gr.done (h : Gr p T V n f C v) (hall : ∀ a d, T n a d ≠ top → C (pv2 a d)) (hT : ∀ a d, ¬ a < p.F.toNat → T n a d = top) {d : Nat} (hd : d < f) : v d = solV p T V n d :=
 (at_some ((h d hd).iff (fun _ => ⟨fun ⟨a, h1, h2⟩ => ⟨a, h1, hall a d h1, h2⟩, fun ⟨a, h1, _, h2⟩ => ⟨a, h1, h2⟩⟩))).eq (solV_glb (fun a ha => hT a d ha))
end
end Iv
end Go.Df
namespace Go.Proofs.YtincpmdldpakkaaGreatDoor
open Go.RowKit Go.Df Go.Df.Iv Go.Df.Sp
theorem sol_is {p : Vb} {s s' : St} (h : Tab p 0 [] s) (hq : s.q = []) (g : GoodV p s.T s') (hv : VClo p s.T s'.V) : IsSol p (solV p s.T s'.V) :=
 ⟨s.T, s'.V, h.1.done hq, h.1.good.snd, hv, g.snd, fun n d _ _ => solV_glb (fun a ha => by
  by_cases e : s.T n a d = top
  ·exact e
  ·exact absurd (h.1.good.wf.rng n a d e).2.1 ha)⟩
end Go.Proofs.YtincpmdldpakkaaGreatDoor
