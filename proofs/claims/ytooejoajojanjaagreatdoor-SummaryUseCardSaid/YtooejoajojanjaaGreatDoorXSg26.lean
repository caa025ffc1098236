/- Texts: Zn Joz Jpz Kc Kdz. -/
import Derived.Test.YtooejoajojanjaaGreatDoorXSg25
import Derived.Test.YtooejoajojanjaaGreatDoorXSg06
import Derived.Laws.BitsAllLaws
import Derived.Test.YtooejoajojanjaaGreatDoorXSg04
import Derived.Maps.RangeWalk
import Derived.Laws.IdiomRangeMap
import Derived.Test.YtooejoajojanjaaGreatDoorXSg12
import Derived.Test.YtooejoajojanjaaGreatDoorXSg05
namespace Go.Proofs.YtooejoajojanjaaGreatDoor
open Go.RowKit Go.Df Go.Df.If
attribute [local go_sem ↓] Go.wp_at_zero Go.wp_at_succ
def GetRun (p : Px) (K : Kn) (w0 : World) (b : Nat) (O : Nat → Prop) (w : World) (e : Ending) (w' : World) : Prop := ∃ O' G s, e = .returned (.tuple #[]) ∧ Mem p.toPb K w0 b O' G w' s ∧ (∀ a m d, s.h m a d = true ↔ PEx p a m d) ∧ Wf p.toPb s ∧ Fx O O' w w'
set_option maxRecDepth 100000 in
set_option maxHeartbeats 100000000 in
theorem run_any {p : Px} {K : Kn} {w0 : World} {b : Nat} {O : Nat → Prop} {G : Gh} {s : St} (w : World) (hI : Inp p.toPb K w0) (hox : OkX p) (hm : Mem p.toPb K w0 b O G w s) (hkx : KnX p K w0 O w) (hiv : InvX p 0 [] s) :
   Calls Tryz.prog 52 #[.pointer (some ⟨b, 0, none⟩)] w (GetRun p K w0 b O w) := by
 have ho := hox.ok
 have HOX := Lib.hid hox
 have HO := Lib.hid ho
 have HI := Lib.hid hI
 have HKX := Lib.hid hkx
 have hF2 : p.F.toNat ≤ 1024 := by have := ho.f2; omega
 have hNS : p.ns.length ≤ 8192 := (sup_parts ho.sup).1
 have HK1 := Lib.hid hI.nd.1.symm
 obtain ⟨PM, hPM⟩ : ∃ PM : Nat → World → Prop, PM = fun m wr => ∃ O' G s, Mem p.toPb K w0 b O' G wr s ∧ InvX p 0 [] s ∧ mea p.toPb s = m ∧ Fx O O' w wr := ⟨_, rfl⟩
 have HPM := Lib.hid hPM
 have hPM0 : ∃ m, PM m w := by rw [hPM]; exact ⟨_, O, G, s, hm, hiv, rfl, Fx.refl _ _⟩
 clear hPM hm hiv hI ho hox hkx
 go_enter Tryz.func52, Tryz.ntmps52
 go_wp2_with fail
 go_loopw [2] (fun _ wr => ∃ m, PM m wr) (fun _ wr => leastM PM wr)
 case atStart => exact hPM0
 case round =>
 clear hPM0
 rename World => wr
 have hex := hrel
 have hsp := leastM_spec hex
 obtain ⟨lv, hlv⟩ : ∃ lv, lv = leastM PM wr := ⟨_, rfl⟩
 rw [← hlv] at hsp
 rw [show PM = _ from HPM.out] at hsp
 have HLV := Lib.hid hlv
 clear hlv
 obtain ⟨O1, G1, s1, MR', IV', hme, FR'⟩ := hsp
 have FW := Lib.hid FR'
 have MR := Lib.hid MR'
 have IV := Lib.hid IV'
 have HME := Lib.hid hme
 have BR := MR.out.box
 unfold sbox at BR
 have ⟨LR, CR, FR⟩ := BR
 have HQ := Lib.hid MR.out.queue
 have HRK := Lib.hid MR.out.rank
 clear MR' IV' FR' hme hex hrel
 cases hq : s1.q with
 | nil =>
   have hqn : G1.qn = 0 := by have h1 := HQ.out.1.1.1; rw [hq] at h1; exact h1.symm
   have HDN := Lib.hid (fun a m d => IV.out.done HOX.out hq a m d)
   have HQN := Lib.hid hqn
   have HQ0 : Hid (Ints wr G1.qA G1.qn []) := Lib.hid (by have h1 := HQ.out.1.1; rw [hq] at h1; exact h1)
   clear hq hqn
   go_wp2_with (go_at_call 91; refine (pop_no G1.rA G1.qA 0 G1.rc G1.qn G1.qc [] [] _ HRK.out.1 HQ0.out (.inr HQN.out)).mono ?_; rintro e w2 ⟨rA, rn, rc, qA, qn, qc, rfl, hr2, hq2, hb2, hfr2, hfq2⟩)
   go_end0
   refine ⟨O1, G1, s1, rfl, MR.out.call (by first | exact hb2.alloc hb2.size _ | (go_grown)), HDN.out, IV.out.wf, FW.out.trans (.same ((Kept.refl _ _).call (by first | exact hb2.alloc hb2.size _ | (go_grown))))⟩
 | cons n r =>
   have hnd := IV.out.wf.qn
   rw [hq] at hnd
   have hqN : ∀ x ∈ n :: r, x < p.ns.length := fun x hx => by
     have h1 := (IV.out.wf.qp x).1 (by rw [hq]; exact hx)
     obtain ⟨y, hy⟩ := List.exists_mem_of_ne_nil _ h1
     exact (IV.out.wf.rng _ _ _ (IV.out.wf.ph x y hy)).1
   have hn : n < p.ns.length := hqN n (by simp)
   have HQC : Hid (SIn wr G1.qA G1.qn G1.qc (ofNats (n :: r))) := Lib.hid (by have h1 := HQ.out.1; rw [hq] at h1; exact h1)
   have HND2 := Lib.hid hnd
   have HQL := Lib.hid hqN
   have HQE := Lib.hid hq
   have hnK : n < K.n1 := by rw [HK1.out]; exact hn
   have hnK' : (n : Int) < (K.n1 : Int) := by omega
   clear hnd hqN hq HQ
   go_upto_region 1 with (go_at_call 91; refine (pop_some _ HRK.out HQC.out HND2.out HQL.out hNS).mono ?_; rintro e w2 ⟨rA, rn, rc, qA, qn, qc, rfl, hr2, hq2, hb2, hfr2, hfq2⟩)
   obtain rfl : rn = 0 := hr2.1.1.symm
   refine wp_named (fun V => ∃ y, w2.heap.size = y ∧ Blk V y [.slice rA 0 rc, .slice qA qn qc] ∧ Kept [] w2 V) ⟨_, rfl, Blk.new _ _ _ _ rfl, (Kept.refl _ _).alloc _⟩ ?_
   rintro V5 ⟨y, ey, By, hkV⟩
   rw [ey]
   have ⟨Ly, Cy, Fy⟩ := By
   have M2 := MR.out.call hb2
   have MV := Lib.hid (M2.call hkV.toBelow)
   have HQV : Hid (SInO O1 V5 qA qn qc (ofNats r)) := Lib.hid ((SInO.new (O := O1) hq2 hfq2 (fun x hx => (MR.out.og x hx).2)).fx (.same hkV))
   have HRV : Hid (SIn V5 rA 0 rc []) := Lib.hid (hr2.kept hkV)
   have BV := MV.out.box
   unfold sbox at BV
   have ⟨LV, CV, FVb⟩ := BV
   clear CR FR ey hq2 hr2 HRK HQC M2 MR
   go_upto_region 3 with fail
   have hset := MV.out.set_queue HQV.out HRV.out
   refine wp_named (fun X => (∃ G, Mem p.toPb K w0 b O1 G X (s1.toq r)) ∧ Fx O O1 w X) ⟨⟨_, hset.1⟩, (FW.out.call hb2).trans ((Fx.same hkV).trans hset.2)⟩ ?_
   rintro X ⟨⟨G2, MX'⟩, FX'⟩
   have FXX := Lib.hid FX'
   have MX := Lib.hid MX'
   have BX5 := MX.out.box
   unfold sbox at BX5
   have ⟨LX5, CX5, FX5⟩ := BX5
   obtain ⟨Ab, mb, cb, hpv, hmb⟩ : ∃ A9 m9 c9, G2.pv n = .slice A9 m9 c9 ∧ m9 = (s1.pd n).length := by
     rcases (MX.out.pown n hnK).2 with ⟨h1, h2⟩ | ⟨g', cap, cur, h1, _⟩
     · exact ⟨_, _, _, h1, h2.symm⟩
     · exact ⟨_, _, _, h1, rfl⟩
   have OWN : Hid (X.ownsRow w0.heap.size 72 2 (.slice Ab mb cb) mb (pcells (s1.pd n))) := Lib.hid (by have h9 := MX.out.pown n hnK; rw [hpv, show ((s1.toq r).pd n).length = mb from hmb.symm] at h9; exact h9)
   have rP : X.cell? ⟨K.pr, n, none⟩ = some (.slice Ab mb cb) := by rw [← hpv]; exact MX.out.prow n hnK
   have fP := MX.out.pfr n
   have hprX : K.pr < X.heap.size := (MX.out.og _ MX.out.opr).2
   obtain ⟨O3, G3, M3', F3', h3o⟩ := MX.out.set_pend (n := n) (l := []) (v := .slice none 0 0) (w1 := X) hnK (Kept.refl _ _) (World.ownsRow_nil _ _ _ _) (fun _ h => by cases h) (by rw [List.length_nil, Nat.zero_add]; exact List.countP_le_length)
   have HSB : Hid (∀ a, Ab = some a → SafeB O3 (X.setCell ⟨K.pr, n, none⟩ (.slice none 0 0)) a.block ∧ a.block ≠ K.pr ∧ a.block < X.heap.size) := fun a ha => by
     have h1 : (G2.pv n).ownBlock = some a.block := by rw [hpv, ha]; rfl
     have h2 := (MX.out.dpv n a.block hnK h1).2.2.2
     have h4 := (MX.out.og _ (MX.out.opv n a.block hnK h1)).2
     exact ⟨⟨by simpa [World.setCell] using h4, fun ho => by have := h3o _ ho h1; cases this⟩, h2, h4⟩
   have HMB := Lib.hid hmb
   have HPV := Lib.hid hpv
   clear CV FVb Cy Fy hset MX' FX' hmb hpv h3o
   go_upto_region 5 with fail
   refine wp_named (fun Y => Mem p.toPb K w0 b O3 G3 Y (popS s1 n r) ∧ Fx O1 O3 X Y ∧ (∀ a, Ab = some a → SafeB O3 Y a.block) ∧ Kept [K.pr] X Y) ⟨M3', F3', fun a ha => (HSB.out a ha).1, (Kept.refl _ _).set K.pr n _ (.inl (by simp))⟩ ?_
   rintro Y ⟨MY', FY', hSY, hkXY⟩
   have FWY := Lib.hid (FXX.out.trans FY')
   have MY := Lib.hid MY'
   have HSY := Lib.hid hSY
   have HPOP := Lib.hid (IV.out.pop HQE.out)
   have HBC : Hid (∀ i (h : i < (s1.pd n).length), ∃ bb, Ab = some ⟨bb, 0, none⟩ ∧ Y.cell? ⟨bb, i * 2, none⟩ = some (.int .i64 ((s1.pd n)[i].1 : Nat)) ∧ Y.cell? ⟨bb, i * 2 + 1, none⟩ = some (.int .i64 ((s1.pd n)[i].2 : Nat))) := fun i h => by
     rcases OWN.out.2 with ⟨h1, h2⟩ | ⟨g', cap, cur, h1, _⟩
     · have := HMB.out; omega
     · injection h1 with e1 e2 e3
       have h2 := HSB.out _ e1
       obtain ⟨p1, p2⟩ := pcells_at (s1.pd n) h
       have q1 := OWN.out.cells (g := g') (by rw [e1]; rfl) _ _ p1
       have q2 := OWN.out.cells (g := g') (by rw [e1]; rfl) _ _ p2
       rw [add_lit, Nat.zero_add] at q1 q2
       exact ⟨g', e1, (hkXY.cell g' _ h2.2.2 (by simpa using h2.2.1)).trans q1, (hkXY.cell g' _ h2.2.2 (by simpa using h2.2.1)).trans q2⟩
   have hmb20 : mb ≤ 1048576000000 := by
     have h1 := MX.out.pdb n hnK
     have h3 := trip_le (N := p.ns.length) (F := p.F.toNat) (by omega) (by omega)
     have h4 := HMB.out
     have h5 : ((s1.toq r).pd n).length = (s1.pd n).length := rfl
     omega
   clear CX5 FX5 rP fP FY' MY' hSY hkXY M3' F3' HSB OWN MX
   go_wp2_with fail
   go_loopw [38] (fun s38 wz => ∃ (i : Nat) (O' : Nat → Prop) (G' : Gh), i ≤ mb ∧ s38 = .int .i64 i ∧ Hid (Mem p.toPb K w0 b O' G' wz (upTo (fun s x => stepX p n x.1 x.2 s) (s1.pd n) (popS s1 n r) i)) ∧ Hid (InvX p n ((s1.pd n).drop i) (upTo (fun s x => stepX p n x.1 x.2 s) (s1.pd n) (popS s1 n r) i)) ∧ Hid (Fx O3 O' Y wz)) (fun s38 _ => mb - (intOf s38).toNat)
   case atStart => exact ⟨0, O3, G3, Nat.zero_le _, rfl, by rw [upTo_zero]; exact MY, by rw [upTo_zero, List.drop_zero]; exact HPOP, Lib.hid (Fx.refl _ _)⟩
   case round =>
   clear MY
   rename World => wz
   obtain ⟨i, O4, G4, hi, rfl, MZ, IZ, FZ⟩ := hrel
   by_cases hlt : i < mb
   · have hi' : i < (s1.pd n).length := by rw [← HMB.out]; exact hlt
     obtain ⟨bb, rfl, c1', c2'⟩ := HBC.out i hi'
     have hsb := HSY.out _ rfl
     obtain ⟨a, d, had⟩ : ∃ a d, (s1.pd n)[i] = (a, d) := ⟨_, _, rfl⟩
     rw [had] at c1' c2'
     replace c1' := (hsb.cell FZ.out (i * 2)).trans c1'
     replace c2' := (hsb.cell FZ.out (i * 2 + 1)).trans c2'
     have hbz := (hsb.fx FZ.out).1
     have hi1 : (i : Int) < (mb : Int) := by omega
     have HDR : Hid ((s1.pd n).drop i = (a, d) :: (s1.pd n).drop (i + 1)) := Lib.hid (by rw [List.drop_eq_getElem_cons hi', had])
     have HII : Hid (InvX p n ((a, d) :: (s1.pd n).drop (i + 1)) (upTo (fun s x => stepX p n x.1 x.2 s) (s1.pd n) (popS s1 n r) i)) := Lib.hid (by have h1 := IZ.out; rw [HDR.out] at h1; exact h1)
     have haF := (HII.out.wf.rng _ _ _ (HII.out.rs (a, d) (by simp))).2.1
     have HSU : Hid (upTo (fun s x => stepX p n x.1 x.2 s) (s1.pd n) (popS s1 n r) (i + 1) = stepX p n a d (upTo (fun s x => stepX p n x.1 x.2 s) (s1.pd n) (popS s1 n r) i)) := by
       show _ = _
       rw [upTo_succ _ _ _ hi', had]
     clear had
     go_upto_region 8 with fail
     refine wp_named (fun V => ∃ y, wz.heap.size = y ∧ Blk V y [.int .i64 a, .int .i64 d] ∧ Kept [] wz V) ⟨_, rfl, Blk.new _ _ _ _ rfl, (Kept.refl _ _).alloc _⟩ ?_
     rintro V7 ⟨y7, ey, By7, hkV7⟩
     rw [ey]
     have ⟨Ly7, Cy7, Fy7⟩ := By7
     have M7 := Lib.hid (MZ.out.call hkV7.toBelow)
     clear c1' c2' ey
     go_wp2_with (go_at_call 92; refine (tstep_any _ n a d HI.out HOX.out HII.out.wf M7.out (HKX.out.fx (FWY.out.trans (FZ.out.trans (.same hkV7)))) hn haF).mono ?_; intro e w8 hG8; obtain ⟨O8, G8, rfl, M8, F8⟩ := hG8)
     exact ⟨⟨i + 1, O8, G8, by omega, by go_num, Lib.hid (M8.eq HSU.out.symm), Lib.hid (by rw [HSU.out]; exact HII.out.step HOX.out), Lib.hid (FZ.out.trans ((Fx.same hkV7).trans F8))⟩, by simp [intOf]; omega⟩
   · obtain rfl : mb = i := by omega
     have HEND : Hid (upTo (fun s x => stepX p n x.1 x.2 s) (s1.pd n) (popS s1 n r) mb = batchX p n (s1.pd n) (popS s1 n r)) := by show _ = _; rw [HMB.out, upTo_all]; rfl
     have hle := batchX_mea HOX.out (s1.pd n) HPOP.out
     have hpop := mea_pop (p := p.toPb) HQE.out
     have hlm : PM (mea p.toPb (batchX p n (s1.pd n) (popS s1 n r))) wz := by
       rw [HPM.out]
       exact ⟨O4, G4, _, MZ.out.eq HEND.out, (batchX_inv HOX.out (s1.pd n) HPOP.out).rest 0, rfl, FWY.out.trans FZ.out⟩
     have hl2 := leastM_le hlm
     have HLM := Lib.hid hlm
     have HL2 := Lib.hid hl2
     have HLE := Lib.hid hle
     have HPP := Lib.hid hpop
     clear hlm hl2 hle hpop
     go_wp2_with fail
     refine ⟨⟨_, HLM.out⟩, ?_⟩
     have h1 := HL2.out; have h2 := HLE.out; have h3 := HPP.out; have h4 := HME.out; have h5 := HLV.out
     omega
end Go.Proofs.YtooejoajojanjaaGreatDoor
namespace Go.Df
open Go.RowKit
def mixB (a b : List Nat) (n i : Nat) : List Nat := (List.range n).map fun x => if x < i then gw a x ||| gw b x else 0
theorem mixB_len (a b : List Nat) (n i : Nat) : (mixB a b n i).length = n := by simp [mixB]
theorem gw_mixB {a b : List Nat} {n i x : Nat} (h : x < n) : gw (mixB a b n i) x = if x < i then gw a x ||| gw b x else 0 := by
 rw [gw_lt (by rw [mixB_len]; exact h)]
 simp [mixB]
theorem mixB_zero {a b : List Nat} {n x : Nat} : gw (mixB a b n 0) x = 0 := by
 rcases Nat.lt_or_ge x n with h | h
 · rw [gw_mixB h, if_neg (by omega)]
 · rw [gw_ge (by rw [mixB_len]; exact h)]
theorem mixB_lt {a b : List Nat} {n i : Nat} (ha : ∀ x, gw a x < 18446744073709551616) (hb : ∀ x, gw b x < 18446744073709551616) (x : Nat) : gw (mixB a b n i) x < 18446744073709551616 := by
 rcases Nat.lt_or_ge x n with h | h
 · rw [gw_mixB h]
   split
   · exact union_lt64 (ha x) (hb x)
   · omega
 · rw [gw_ge (by rw [mixB_len]; exact h)]; omega
theorem mixB_succ {a b : List Nat} {n i x : Nat} (h : x < n) : gw (mixB a b n (i + 1)) x = if x = i then gw a i ||| gw b i else gw (mixB a b n i) x := by
 rw [gw_mixB h, gw_mixB h]
 by_cases e : x = i
 · subst e; rw [if_pos (by omega), if_pos rfl]
 · rw [if_neg e]
   by_cases e2 : x < i
   · rw [if_pos (by omega), if_pos e2]
   · rw [if_neg (by omega), if_neg e2]
theorem mixB_all {a b : List Nat} {n y : Nat} (ha : a.length ≤ n) (hb : b.length ≤ n) : hasB (mixB a b n n) y = (hasB a y || hasB b y) := by
 rw [← hasB_union ha hb]
 have : mixB a b n n = unionB a b n := by
   unfold mixB unionB
   refine List.map_congr_left fun x hx => ?_
   rw [if_pos (List.mem_range.1 hx)]
 rw [this]
end Go.Df
namespace Go.Proofs.YtooejoajojanjaaGreatDoor
open Go.RowKit Go.Df Go.Df.If
attribute [local go_sem ↓] Go.wp_at_zero Go.wp_at_succ
set_option maxRecDepth 100000 in
set_option maxHeartbeats 4000000 in
theorem union_l (A B : Option Addr) (n c m d : Nat) (a b : List Nat) (w : World) (ha : Bts w A n a) (hb : Bts w B m b) (hn : n ≤ 1024) (_hm : m ≤ 1024) (h : m ≤ n) :
   Calls Tryz.prog 94 #[.slice A n c, .slice B m d] w (GetSet w n (fun y => hasB a y || hasB b y)) := by
 obtain ⟨i0, hi, hz0, hz1, hz2⟩ := info_parts u64_info
 have HA := Lib.hid ha
 have HB := Lib.hid hb
 have HAN := Lib.hid ha.1
 have HBN := Lib.hid hb.1
 have hmx : max (n : Int) (m : Int) = (n : Int) := by omega
 have hnM : n ≤ n := by omega
 have hmM : m ≤ n := by omega
 have hM1 : n ≤ 1024 := by omega
 have hmk := fun w => run_make1 (P := Tryz.prog) Tryz.underlying166 hi hz0 hz1 hz2 rfl n (by omega) (by omega) _ rfl w
 obtain ⟨MZ, hMZ⟩ : ∃ M, (List.replicate n (Value.int .u64 0)).toArray = M := ⟨_, rfl⟩
 rw [hMZ] at hmk
 have HMZ := Lib.hid hMZ
 clear ha hb hMZ
 go_enter Tryz.func94, Tryz.ntmps94
 go_upto_region 2 with fail
 refine wp_named (fun V => ∃ g, w.heap.size = g ∧ Wrd V g n (mixB a b n 0) ∧ Below w.heap.size w V) ⟨_, rfl, ?_, ((Below.refl _ _).alloc (Nat.le_refl _) _)⟩ ?_
 · refine ⟨by simp, mixB_len _ _ _ _, fun i => mixB_lt HA.out.2.1 HB.out.2.1 i, fun i hi => ?_, fun i => World.frozen?_alloc_new w _ _ i⟩
   rw [World.cell?_alloc_new, ← HMZ.out, mixB_zero]
   simp [hi]
 rintro V ⟨g, eg, WV, hbV⟩
 rw [eg]
 have HEG := Lib.hid eg
 have W0 := Lib.hid WV
 have HBV := Lib.hid hbV
 clear WV eg hmk hbV
 go_wp2_with fail
 go_loopw [15] (fun s15 wr => ∃ i : Nat, i ≤ n ∧ s15 = .int .i64 i ∧ Hid (Wrd wr g n (mixB a b n i)) ∧ Hid (Below w.heap.size w wr)) (fun s15 _ => n - (intOf s15).toNat)
 case atStart => exact ⟨0, Nat.zero_le _, rfl, W0, HBV⟩
 case round =>
 obtain ⟨i, hi', rfl, WR, BR⟩ := hrel
 clear W0 HBV
 by_cases hlt : i < n
 · have hcell := WR.out.2.2.2.1 i hlt
   have hfr := WR.out.2.2.2.2 i
   have hgl := WR.out.1
   have hi1 : (i : Int) < (n : Int) := by omega
   have hor := bits_or_nat (gw a i) (gw b i) (HA.out.2.1 i) (HB.out.2.1 i)
   have HS : Hid (Wrd (wr.setCell ⟨g, i, none⟩ (.int .u64 ((gw a i ||| gw b i : Nat) : Int))) g n (mixB a b n (i + 1))) := Lib.hid (WR.out.set (union_lt64 (HA.out.2.1 i) (HB.out.2.1 i)) (mixB_len _ _ _ _) (fun x hx => mixB_succ hx))
   have HS2 : Hid (Below w.heap.size w (wr.setCell ⟨g, i, none⟩ (.int .u64 ((gw a i ||| gw b i : Nat) : Int)))) := Lib.hid (BR.out.setCell (show w.heap.size ≤ g by have := HEG.out; omega) _)
   go_wp2_with fail
   refine (word_any A n c i a _ (HA.out.later BR.out) (by omega)).mono ?_
   rintro e w1 ⟨rfl, rfl⟩
   go_wp2_with fail
   refine (word_any B m d i b _ (HB.out.later BR.out) (by omega)).mono ?_
   rintro e w1 ⟨rfl, rfl⟩
   go_wp2_with fail
   exact ⟨⟨i + 1, by omega, by go_num, HS, HS2⟩, by simp [intOf]; omega⟩
 obtain rfl : n = i := by omega
 go_wp2_with (go_at_call 138; refine (normal_any g n n _ _ WR.out (Nat.le_refl _) (by omega)).mono ?_; rintro e w2 ⟨A', n', l', rfl, hb', hh', hn', hA', hA2, rfl⟩)
 go_ret
 refine ⟨A', n', l', rfl, hb', fun y => ?_, by omega, fun x hx => ?_, hA2, BR.out⟩
 · rw [hh' y, mixB_all (by rw [HAN.out]; exact hnM) (by rw [HBN.out]; exact hmM)]
 · rw [hA' x hx]
   have := WR.out.1
   have := HEG.out
   omega
set_option maxRecDepth 100000 in
set_option maxHeartbeats 4000000 in
theorem union_r (A B : Option Addr) (n c m d : Nat) (a b : List Nat) (w : World) (ha : Bts w A n a) (hb : Bts w B m b) (hn : n ≤ 1024) (hm : m ≤ 1024) (h : n < m) :
   Calls Tryz.prog 94 #[.slice A n c, .slice B m d] w (GetSet w m (fun y => hasB a y || hasB b y)) := by
 obtain ⟨i0, hi, hz0, hz1, hz2⟩ := info_parts u64_info
 have HA := Lib.hid ha
 have HB := Lib.hid hb
 have HAN := Lib.hid ha.1
 have HBN := Lib.hid hb.1
 have hmx : max (n : Int) (m : Int) = (m : Int) := by omega
 have hnM : n ≤ m := by omega
 have hmM : m ≤ m := by omega
 have hM1 : m ≤ 1024 := by omega
 have hmk := fun w => run_make1 (P := Tryz.prog) Tryz.underlying166 hi hz0 hz1 hz2 rfl m (by omega) (by omega) _ rfl w
 obtain ⟨MZ, hMZ⟩ : ∃ M, (List.replicate m (Value.int .u64 0)).toArray = M := ⟨_, rfl⟩
 rw [hMZ] at hmk
 have HMZ := Lib.hid hMZ
 clear ha hb hMZ
 go_enter Tryz.func94, Tryz.ntmps94
 go_upto_region 2 with fail
 refine wp_named (fun V => ∃ g, w.heap.size = g ∧ Wrd V g m (mixB a b m 0) ∧ Below w.heap.size w V) ⟨_, rfl, ?_, ((Below.refl _ _).alloc (Nat.le_refl _) _)⟩ ?_
 · refine ⟨by simp, mixB_len _ _ _ _, fun i => mixB_lt HA.out.2.1 HB.out.2.1 i, fun i hi => ?_, fun i => World.frozen?_alloc_new w _ _ i⟩
   rw [World.cell?_alloc_new, ← HMZ.out, mixB_zero]
   simp [hi]
 rintro V ⟨g, eg, WV, hbV⟩
 rw [eg]
 have HEG := Lib.hid eg
 have W0 := Lib.hid WV
 have HBV := Lib.hid hbV
 clear WV eg hmk hbV
 go_wp2_with fail
 go_loopw [15] (fun s15 wr => ∃ i : Nat, i ≤ m ∧ s15 = .int .i64 i ∧ Hid (Wrd wr g m (mixB a b m i)) ∧ Hid (Below w.heap.size w wr)) (fun s15 _ => m - (intOf s15).toNat)
 case atStart => exact ⟨0, Nat.zero_le _, rfl, W0, HBV⟩
 case round =>
 obtain ⟨i, hi', rfl, WR, BR⟩ := hrel
 clear W0 HBV
 by_cases hlt : i < m
 · have hcell := WR.out.2.2.2.1 i hlt
   have hfr := WR.out.2.2.2.2 i
   have hgl := WR.out.1
   have hi1 : (i : Int) < (m : Int) := by omega
   have hor := bits_or_nat (gw a i) (gw b i) (HA.out.2.1 i) (HB.out.2.1 i)
   have HS : Hid (Wrd (wr.setCell ⟨g, i, none⟩ (.int .u64 ((gw a i ||| gw b i : Nat) : Int))) g m (mixB a b m (i + 1))) := Lib.hid (WR.out.set (union_lt64 (HA.out.2.1 i) (HB.out.2.1 i)) (mixB_len _ _ _ _) (fun x hx => mixB_succ hx))
   have HS2 : Hid (Below w.heap.size w (wr.setCell ⟨g, i, none⟩ (.int .u64 ((gw a i ||| gw b i : Nat) : Int)))) := Lib.hid (BR.out.setCell (show w.heap.size ≤ g by have := HEG.out; omega) _)
   go_wp2_with fail
   refine (word_any A n c i a _ (HA.out.later BR.out) (by omega)).mono ?_
   rintro e w1 ⟨rfl, rfl⟩
   go_wp2_with fail
   refine (word_any B m d i b _ (HB.out.later BR.out) (by omega)).mono ?_
   rintro e w1 ⟨rfl, rfl⟩
   go_wp2_with fail
   exact ⟨⟨i + 1, by omega, by go_num, HS, HS2⟩, by simp [intOf]; omega⟩
 obtain rfl : m = i := by omega
 go_wp2_with (go_at_call 138; refine (normal_any g m m _ _ WR.out (Nat.le_refl _) (by omega)).mono ?_; rintro e w2 ⟨A', n', l', rfl, hb', hh', hn', hA', hA2, rfl⟩)
 go_ret
 refine ⟨A', n', l', rfl, hb', fun y => ?_, by omega, fun x hx => ?_, hA2, BR.out⟩
 · rw [hh' y, mixB_all (by rw [HAN.out]; exact hnM) (by rw [HBN.out]; exact hmM)]
 · rw [hA' x hx]
   have := WR.out.1
   have := HEG.out
   omega
theorem union_any (A B : Option Addr) (n c m d : Nat) (a b : List Nat) (w : World) (ha : Bts w A n a) (hb : Bts w B m b) (hn : n ≤ 1024) (hm : m ≤ 1024) :
   Calls Tryz.prog 94 #[.slice A n c, .slice B m d] w (GetSet w 1024 (fun y => hasB a y || hasB b y)) := by
 rcases Nat.lt_or_ge n m with h | h
 · exact (union_r A B n c m d a b w ha hb hn hm h).mono fun e w' ⟨A', n', l', h1, h2, h3, h4, h5⟩ => ⟨A', n', l', h1, h2, h3, by omega, h5⟩
 · exact (union_l A B n c m d a b w ha hb hn hm h).mono fun e w' ⟨A', n', l', h1, h2, h3, h4, h5⟩ => ⟨A', n', l', h1, h2, h3, by omega, h5⟩
end Go.Proofs.YtooejoajojanjaaGreatDoor
namespace Go.Df
open Go.RowKit
theorem mask_bit : ∀ j, j < 64 → Nat.testBit 18446744073709551614 j = (j != 0) := by decide
def woB (l : List Nat) (n : Nat) : List Nat := (List.range n).map fun i => if i = 0 then gw l 0 &&& 18446744073709551614 else gw l i
theorem woB_len (l : List Nat) (n : Nat) : (woB l n).length = n := by simp [woB]
theorem gw_woB {l : List Nat} {n i : Nat} (h : i < n) : gw (woB l n) i = if i = 0 then gw l 0 &&& 18446744073709551614 else gw l i := by
 rw [gw_lt (by rw [woB_len]; exact h)]
 simp [woB]
theorem hasB_wo {l : List Nat} {n : Nat} (h : l.length = n) (y : Nat) : hasB (woB l n) y = (hasB l y && y != 0) := by
 unfold hasB
 rcases Nat.lt_or_ge (y / 64) n with h1 | h1
 · rw [gw_woB h1]
   by_cases e : y / 64 = 0
   · rw [if_pos e, Nat.testBit_and, mask_bit _ (Nat.mod_lt _ (by omega)), e]
     have : y % 64 = y := by omega
     rw [this]
   · rw [if_neg e]
     have : (y != 0) = true := by simp; omega
     rw [this, Bool.and_true]
 · rw [gw_ge (by rw [woB_len]; exact h1), gw_ge (by omega)]
   simp
theorem hasB_zero_none {l : List Nat} (h : l.length = 0) (y : Nat) : hasB l y = (hasB l y && y != 0) := by
 rw [hasB_ge (by omega)]
 rfl
end Go.Df
namespace Go.Proofs.YtooejoajojanjaaGreatDoor
open Go.RowKit Go.Df Go.Df.If
attribute [local go_sem ↓] Go.wp_at_zero Go.wp_at_succ
set_option maxRecDepth 100000 in
set_option maxHeartbeats 4000000 in
theorem without_any (A : Option Addr) (n c : Nat) (l : List Nat) (w : World) (hb : Bts w A n l) (hn : n ≤ 1024) (hA : A = none → n = 0) :
   Calls Tryz.prog 96 #[.slice A n c, .int .i64 0] w (GetSet w 1024 (fun y => hasB l y && y != 0)) := by
 obtain ⟨i0, hi, hz0, hz1, hz2⟩ := info_parts u64_info
 have HB := Lib.hid hb
 have HN := Lib.hid hb.1
 have HA := Lib.hid hA
 obtain ⟨MZ, hMZ⟩ : ∃ M, (List.replicate n (Value.int .u64 0)).toArray = M := ⟨_, rfl⟩
 have hmk := fun w => run_make1 (P := Tryz.prog) Tryz.underlying166 hi hz0 hz1 hz2 rfl n (by omega) (by omega) MZ hMZ w
 have HMZ := Lib.hid hMZ
 clear hb hA hMZ
 go_enter Tryz.func96, Tryz.ntmps96
 go_upto_region 2 with fail
 go_upto_region 3 with (refine wpList_copy_splice rfl _ _ 166 166 rfl 225 Tryz.underlying166 (by kernel_rfl) _ _ _ _ _ _ rfl rfl w.heap.size 0 (List.replicate n (Value.int .u64 0)) 225 (by rw [HMZ.out]; exact heap_alloc_new w _) (l.map fun (v : Nat) => Value.int .u64 (v : Int)) (by rw [List.length_map, HN.out]; exact (Nat.min_eq_left (Nat.le_refl _)).symm) (words_src w HB.out HA.out) (by rw [List.length_map, HN.out, List.length_replicate, Nat.zero_add]; exact Nat.le_refl _) (by intro v hv; rw [List.mem_map] at hv; obtain ⟨u, -, rfl⟩ := hv; rfl) w.heap.size w ((Below.refl _ _).alloc (Nat.le_refl _) _) (Nat.le_refl _) ?_; intro wc hcp hbc)
 refine wp_named (fun V => ∃ g, w.heap.size = g ∧ Wrd V g n (padB l n) ∧ Below w.heap.size w V) ⟨_, rfl, wrd_copied hcp.out HB.out (Nat.le_refl _), hbc⟩ ?_
 rintro V ⟨g, eg, WV, hbV⟩
 rw [eg]
 have HWV := Lib.hid WV
 have HEG := Lib.hid eg
 clear WV hcp hbc eg hmk
 by_cases h0 : n = 0
 · subst h0
   go_wp2_with (go_at_call 138; refine (normal_any g 0 0 _ _ HWV.out (Nat.le_refl _) (by omega)).mono ?_; rintro e w2 ⟨A', n', l', rfl, hb', hh', hn', hA', hA2, rfl⟩)
   go_ret
   refine ⟨A', n', l', rfl, hb', fun y => ?_, by omega, fun a ha => ?_, hA2, hbV⟩
   · rw [hh' y]
     have e1 : hasB (padB l 0) y = hasB l y := by unfold hasB; rw [gw_padB (by rw [HN.out]; exact Nat.le_refl _)]
     rw [e1]
     exact hasB_zero_none HN.out y
   · rw [hA' a ha]
     have := HWV.out.1
     have := HEG.out
     omega
 have hn0 : (0 : Int) < (n : Int) := by omega
 have hn1 : 0 < n := by omega
 have hcell : V.cell? ⟨g, 0, none⟩ = some (.int .u64 (gw l 0)) := by rw [HWV.out.2.2.2.1 0 hn1, gw_padB (by rw [HN.out]; exact Nat.le_refl _)]
 have hfr := HWV.out.2.2.2.2 0
 have hgl := HWV.out.1
 have hor := u64_andNot_nat (gw l 0) 1 (HB.out.2.1 0) (by omega)
 simp only [Int.natCast_one, Nat.reduceSub] at hor
 clear h0
 go_upto_region 5 with fail
 refine wp_named (fun U => Wrd U g n (woB l n) ∧ Below w.heap.size w U) ⟨?_, hbV.setCell (show w.heap.size ≤ g by have := HEG.out; omega) _⟩ ?_
 · refine HWV.out.set (j := 0) (v := gw l 0 &&& 18446744073709551614) (Nat.lt_of_le_of_lt Nat.and_le_left (HB.out.2.1 0)) (woB_len l n) (fun i hi => ?_)
   rw [gw_woB hi, gw_padB (by rw [HN.out]; exact Nat.le_refl _)]
 rintro U ⟨WU, hbU⟩
 clear hcell hfr hor hgl
 go_wp2_with (go_at_call 138; refine (normal_any g n n _ _ WU (Nat.le_refl _) (by omega)).mono ?_; rintro e w2 ⟨A', n', l', rfl, hb', hh', hn', hA', hA2, rfl⟩)
 go_ret
 refine ⟨A', n', l', rfl, hb', fun y => ?_, by omega, fun a ha => ?_, hA2, hbU⟩
 · rw [hh' y]
   exact hasB_wo HN.out y
 · rw [hA' a ha]
   have := WU.1
   have := HEG.out
   omega
end Go.Proofs.YtooejoajojanjaaGreatDoor
namespace Go.Df
open Go.RowKit Go.Maps Go.ChangeMaps
def RgT (P : Program) (k : TypeId) (z : Value) (w : World) (b r n : Nat) (f : Value → Value) (left : Lit → Bool) (cnt : Nat) : Prop :=
 ∃ D : DataW Value, w.ranges P k tokElem b r n D left cnt ∧ Reads P k z D f
variable {P : Program} {k : TypeId} {z : Value} {w w' : World} {b r n : Nat} {f : Value → Value} {left : Lit → Bool} {cnt : Nat}
theorem RgT.left_eq (h : RgT P k z w b r n f left cnt) : w.rangeLeft b r = cnt := let ⟨_, h1, _⟩ := h; h1.left_eq
theorem RgT.lt (h : RgT P k z w b r n f left cnt) : r < w.heap.size := let ⟨_, h1, _⟩ := h; h1.lt
theorem RgT.grown {row : Option Nat} (h : RgT P k z w b r n f left cnt) (hg : w.grownBy w' row) (hb : some b ≠ row) (hr : some r ≠ row) : RgT P k z w' b r n f left cnt :=
 let ⟨D, h1, h2⟩ := h; ⟨D, h1.kept hg hb hr, h2⟩
theorem kept_of_grown {row : Option Nat} (h : w.grownBy w' row) : Kept row.toList w w' :=
 ⟨h.os, h.tape, h.output, h.size, fun i hi hn => h.block i hi (fun e => hn (by rw [← e]; simp))⟩
theorem RgT.kept {X : List Nat} (h : RgT P k z w b r n f left cnt) (hk : Kept X w w') (hb : b ∉ X) (hr : r ∉ X) : RgT P k z w' b r n f left cnt := by
 obtain ⟨D, ⟨es, clock, since, seen, c0, h1, F, hs, hD, h2, rest⟩, h3⟩ := h
 have hlb := (Array.getElem?_eq_some_iff.1 h1).1
 have hlr := (Array.getElem?_eq_some_iff.1 h2).1
 exact ⟨D, ⟨es, clock, since, seen, c0, (hk.block b hlb hb).trans h1, F, hs, hD, (hk.block r hlr hr).trans h2, rest⟩, h3⟩
section
variable {ops : Array Oper} {rest : List Oper} {o : Oper} {a : Act} {Q : Exit → Act → World → Prop}
theorem wpList_range_mapT (hg : o.guard = none) (m : Operand) (t : TypeId) (hop : o.op = Op.range t m) (e : TypeId) (K : Keyed P k) (ht : P.underlying t = some (.map k e))
   (hm : a.eval m = .map (some b)) (hown : MapT P k z w b n f)
   (hK : ∀ w' left cnt, RgT P k z w' b w.heap.size n f left cnt → (∀ key kl, keyOf P k key = some kl → left kl = false → f key = z) → Kept [] w w' → w'.heap.size = w.heap.size + 1 → wpList P ops Q rest (a.put o.dst (.pointer (some ⟨w.heap.size, 0, none⟩))) w') :
   wpList P ops Q (o :: rest) a w := by
 obtain ⟨D, h1, h2⟩ := hown
 refine wpList_range_own w hg m t hop k e K ht tokElem b n D hm h1 fun w' hr hgr hsz => ?_
 refine hK w' _ _ ⟨D, hr, h2⟩ (fun key kl hk hl => ?_) (kept_of_grown hgr) hsz
 have h3 := (h2 key kl hk).1
 rw [atKey_of_not_has hl] at h3
 injection h3 with h3
 exact h3.symm
theorem wpList_next_mapT (hg : o.guard = none) (it : Operand) (hop : o.op = Op.next it false) (q : IntKind) (K : Keyed P k) (hk : P.underlying k = some (.int q))
   (hit : a.eval it = .pointer (some ⟨r, 0, none⟩)) (h : RgT P k z w b r n f left cnt)
   (hDone : cnt = 0 → (∀ kl, left kl = false) → wpList P ops Q rest (a.put o.dst (.tuple #[.bool false])) w)
   (hMore : ∀ (x : Int) (w' : World) (cnt' : Nat), (Lit.int q x).wf = true → left (.int q x) = true → RgT P k z w' b r n f (fun y => left y && !y.sameKey (.int q x)) cnt' → cnt' < cnt → Kept [r] w w' → w'.heap.size = w.heap.size →
     (Instr.entry (.pointer (some ⟨r, 0, none⟩))).run P w' = .ok (.tuple #[.int q x, f (.int q x)]) w' → wpList P ops Q rest (a.put o.dst (.tuple #[.bool true, .int q x, f (.int q x)])) w') :
   wpList P ops Q (o :: rest) a w := by
 obtain ⟨D, h1, h2⟩ := h
 refine wpList_next_ranges w hg it hop k K tokElem (Value.int q) id (fun key kl hkey => by obtain ⟨x, rfl, _⟩ := Maps.keyOf_int_inv hk hkey; exact ⟨x, rfl⟩) (fun v y _ => ⟨v, rfl⟩) b r n D left cnt hit h1 hDone ?_
 intro x c kl y w' cnt' hkey hlk hv hat hrg hlt hgr hsz hen
 obtain ⟨x', ex, rfl, hwx⟩ := Maps.keyOf_int_inv hk hkey
 cases ex
 have h3 := (h2 _ _ hkey).1
 rw [hat] at h3
 have h4 : y = (.held c, []) := by
   have : tokElem (id c) = some y := hv
   unfold tokElem at this
   exact (Option.some.inj this).symm
 rw [h4] at h3
 injection h3 with h3
 have h3 : c = f (.int q x) := h3
 subst h3
 exact hMore x w' cnt' hwx hlk ⟨D, hrg, h2⟩ hlt (kept_of_grown hgr) hsz hen
end
def RgO (P : Program) (k : TypeId) (z : Value) (w : World) (m : Option Nat) (r n : Nat) (f : Value → Value) (left : Lit → Bool) (cnt : Nat) : Prop :=
 match m with
 | some b => RgT P k z w b r n f left cnt
 | none => w.heap[r]? = some (.mapIter none 0 #[] 0) ∧ cnt = 0 ∧ ∀ kl, left kl = false
def leftO (w : World) (m : Option Nat) (r : Nat) : Nat := match m with | some b => w.rangeLeft b r | none => 0
theorem RgO.left_eq {m : Option Nat} (h : RgO P k z w m r n f left cnt) : leftO w m r = cnt := by
 cases m with
 | some b => exact RgT.left_eq h
 | none => exact h.2.1.symm
theorem RgO.lt {m : Option Nat} (h : RgO P k z w m r n f left cnt) : r < w.heap.size := by
 cases m with
 | some b => exact RgT.lt h
 | none => exact (Array.getElem?_eq_some_iff.1 h.1).1
theorem RgO.kept {m : Option Nat} {X : List Nat} (h : RgO P k z w m r n f left cnt) (hk : Kept X w w') (hb : ∀ b, m = some b → b ∉ X) (hr : r ∉ X) : RgO P k z w' m r n f left cnt := by
 cases m with
 | some b => exact RgT.kept h hk (hb b rfl) hr
 | none => exact ⟨(hk.block r (RgO.lt (m := none) h) hr).trans h.1, h.2⟩
section
variable {ops : Array Oper} {rest : List Oper} {o : Oper} {a : Act} {Q : Exit → Act → World → Prop}
theorem wpList_range_mapO (hg : o.guard = none) (m : Operand) (t : TypeId) (hop : o.op = Op.range t m) (e : TypeId) (K : Keyed P k) (ht : P.underlying t = some (.map k e)) (mm : Option Nat)
   (hm : a.eval m = .map mm) (hown : ∀ b, mm = some b → MapT P k z w b n f) (hno : mm = none → ∀ key, f key = z)
   (hK : ∀ w' left cnt, RgO P k z w' mm w.heap.size n f left cnt → (∀ key kl, keyOf P k key = some kl → left kl = false → f key = z) → Kept [] w w' → w'.heap.size = w.heap.size + 1 → wpList P ops Q rest (a.put o.dst (.pointer (some ⟨w.heap.size, 0, none⟩))) w') :
   wpList P ops Q (o :: rest) a w := by
 cases mm with
 | some b => exact wpList_range_mapT hg m t hop e K ht hm (hown b rfl) (fun w' left cnt h => hK w' left cnt h)
 | none =>
   refine wpList_plain hg fun K' hK' => ?_
   unfold Oper.wp
   simp [execOp, hop, hm, run_range_nilMap w t k e ht, Result.andThen]
   exact hK' _ _ (hK _ (fun _ => false) 0 ⟨heap_alloc_new w _, rfl, fun _ => rfl⟩ (fun key _ _ _ => hno rfl key) ((Kept.refl _ _).alloc _) (by simp))
theorem wpList_next_mapO (hg : o.guard = none) (it : Operand) (hop : o.op = Op.next it false) (q : IntKind) (K : Keyed P k) (hk : P.underlying k = some (.int q)) (mm : Option Nat)
   (hit : a.eval it = .pointer (some ⟨r, 0, none⟩)) (h : RgO P k z w mm r n f left cnt)
   (hDone : cnt = 0 → (∀ kl, left kl = false) → wpList P ops Q rest (a.put o.dst (.tuple #[.bool false])) w)
   (hMore : ∀ (x : Int) (w' : World) (cnt' : Nat), (Lit.int q x).wf = true → left (.int q x) = true → RgO P k z w' mm r n f (fun y => left y && !y.sameKey (.int q x)) cnt' → cnt' < cnt → Kept [r] w w' → w'.heap.size = w.heap.size →
     (Instr.entry (.pointer (some ⟨r, 0, none⟩))).run P w' = .ok (.tuple #[.int q x, f (.int q x)]) w' → wpList P ops Q rest (a.put o.dst (.tuple #[.bool true, .int q x, f (.int q x)])) w') :
   wpList P ops Q (o :: rest) a w := by
 cases mm with
 | some b => exact wpList_next_mapT hg it hop q K hk hit h hDone hMore
 | none =>
   refine wpList_plain hg fun K' hK' => ?_
   have hrun : ∀ ty, (Instr.next (.pointer (some ⟨r, 0, none⟩)) false ty).run P w = .ok (.tuple #[.bool false]) w := fun ty => by
     simp only [Instr.next, getObj, Sem.run_bind, Sem.run, h.1, Result.andThen]
     rfl
   unfold Oper.wp
   simp [execOp, hop, hit, hrun, Result.andThen]
   exact hK' _ _ (hDone h.2.1 h.2.2)
end
end Go.Df
namespace Go.Df
open Go.RowKit
namespace If
open Sp
open Classical in
/-- The facts of the solution at a node, ascending. -/
noncomputable def solF (p : Pb) (i : Nat) : List Int := ofNats ((List.range p.F.toNat).filter fun d => d != 0 && decide (∃ a, PE p a i d))
open Classical in
noncomputable def solR (p : Pb) (i : Nat) : Bool := decide (PE p 0 i 0)
theorem retNamed {P : Program} {f : Func} {Q : Ending → World → Prop} {e : Exit} {a : Act} {w : World} (S : World → Prop) (h0 : S w) (h : ∀ X, S X → bodyPost P f Q e a X) : bodyPost P f Q e a w := h w h0
end If
end Go.Df
