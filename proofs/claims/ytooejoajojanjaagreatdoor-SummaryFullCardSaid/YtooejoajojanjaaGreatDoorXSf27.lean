/- Texts: Zn Joz Jpz Kc Kdz Vy Sl. -/
import Derived.Test.YtooejoajojanjaaGreatDoorXSf26
import Derived.Test.YtooejoajojanjaaGreatDoorXSf06
import Derived.Laws.BitsAllLaws
import Derived.Test.YtooejoajojanjaaGreatDoorXSf04
import Derived.Maps.RangeWalk
import Derived.Laws.IdiomRangeMap
import Derived.Test.YtooejoajojanjaaGreatDoorXSf12
import Derived.Test.YtooejoajojanjaaGreatDoorXSf05
import Derived.Test.YtooejoajojanjaaGreatDoorXSf16
namespace Go.Proofs.YtooejoajojanjaaGreatDoor
open Go.RowKit Go.Df Go.Df.If
attribute [local go_sem ↓] Go.wp_at_zero Go.wp_at_succ
def GetRun (p : Px) (K : Kn) (w0 : World) (b : Nat) (O : Nat → Prop) (w : World) (e : Ending) (w' : World) : Prop := ∃ O' G s, e = .returned (.tuple #[]) ∧ Mem p.toPb K w0 b O' G w' s ∧ (∀ a m d, s.h m a d = true ↔ PEx p a m d) ∧ Wf p.toPb s ∧ Fx O O' w w'
set_option maxRecDepth 100000 in
set_option maxHeartbeats 100000000 in
theorem run_any {p : Px} {K : Kn} {w0 : World} {b : Nat} {O : Nat → Prop} {G : Gh} {s : St} (w : World) (hI : Inp p.toPb K w0) (hox : OkX p) (hm : Mem p.toPb K w0 b O G w s) (hkx : KnX p K w0 O w) (hiv : InvX p 0 [] s) :
   Calls Tryz.prog 52 #[.pointer (some ⟨b, 0, none⟩)] w (GetRun p K w0 b O w) := by
 have ho := hox.ok
 have HOX := Lib.hid hox
 have HO := Lib.hid ho
 have HI := Lib.hid hI
 have HKX := Lib.hid hkx
 have hF2 : p.F.toNat ≤ 1024 := by have := ho.f2; omega
 have hNS : p.ns.length ≤ 8192 := (sup_parts ho.sup).1
 have HK1 := Lib.hid hI.nd.1.symm
 obtain ⟨PM, hPM⟩ : ∃ PM : Nat → World → Prop, PM = fun m wr => ∃ O' G s, Mem p.toPb K w0 b O' G wr s ∧ InvX p 0 [] s ∧ mea p.toPb s = m ∧ Fx O O' w wr := ⟨_, rfl⟩
 have HPM := Lib.hid hPM
 have hPM0 : ∃ m, PM m w := by rw [hPM]; exact ⟨_, O, G, s, hm, hiv, rfl, Fx.refl _ _⟩
 clear hPM hm hiv hI ho hox hkx
 go_enter Tryz.func52, Tryz.ntmps52
 go_wp2_with fail
 go_loopw [2] (fun _ wr => ∃ m, PM m wr) (fun _ wr => leastM PM wr)
 case atStart => exact hPM0
 case round =>
 clear hPM0
 rename World => wr
 have hex := hrel
 have hsp := leastM_spec hex
 obtain ⟨lv, hlv⟩ : ∃ lv, lv = leastM PM wr := ⟨_, rfl⟩
 rw [← hlv] at hsp
 rw [show PM = _ from HPM.out] at hsp
 have HLV := Lib.hid hlv
 clear hlv
 obtain ⟨O1, G1, s1, MR', IV', hme, FR'⟩ := hsp
 have FW := Lib.hid FR'
 have MR := Lib.hid MR'
 have IV := Lib.hid IV'
 have HME := Lib.hid hme
 have BR := MR.out.box
 unfold sbox at BR
 have ⟨LR, CR, FR⟩ := BR
 have HQ := Lib.hid MR.out.queue
 have HRK := Lib.hid MR.out.rank
 clear MR' IV' FR' hme hex hrel
 cases hq : s1.q with
 | nil =>
   have hqn : G1.qn = 0 := by have h1 := HQ.out.1.1.1; rw [hq] at h1; exact h1.symm
   have HDN := Lib.hid (fun a m d => IV.out.done HOX.out hq a m d)
   have HQN := Lib.hid hqn
   have HQ0 : Hid (Ints wr G1.qA G1.qn []) := Lib.hid (by have h1 := HQ.out.1.1; rw [hq] at h1; exact h1)
   clear hq hqn
   go_wp2_with (go_at_call 91; refine (pop_no G1.rA G1.qA 0 G1.rc G1.qn G1.qc [] [] _ HRK.out.1 HQ0.out (.inr HQN.out)).mono ?_; rintro e w2 ⟨rA, rn, rc, qA, qn, qc, rfl, hr2, hq2, hb2, hfr2, hfq2⟩)
   go_end0
   refine ⟨O1, G1, s1, rfl, MR.out.call (by first | exact hb2.alloc hb2.size _ | (go_grown)), HDN.out, IV.out.wf, FW.out.trans (.same ((Kept.refl _ _).call (by first | exact hb2.alloc hb2.size _ | (go_grown))))⟩
 | cons n r =>
   have hnd := IV.out.wf.qn
   rw [hq] at hnd
   have hqN : ∀ x ∈ n :: r, x < p.ns.length := fun x hx => by
     have h1 := (IV.out.wf.qp x).1 (by rw [hq]; exact hx)
     obtain ⟨y, hy⟩ := List.exists_mem_of_ne_nil _ h1
     exact (IV.out.wf.rng _ _ _ (IV.out.wf.ph x y hy)).1
   have hn : n < p.ns.length := hqN n (by simp)
   have HQC : Hid (SIn wr G1.qA G1.qn G1.qc (ofNats (n :: r))) := Lib.hid (by have h1 := HQ.out.1; rw [hq] at h1; exact h1)
   have HND2 := Lib.hid hnd
   have HQL := Lib.hid hqN
   have HQE := Lib.hid hq
   have hnK : n < K.n1 := by rw [HK1.out]; exact hn
   have hnK' : (n : Int) < (K.n1 : Int) := by omega
   clear hnd hqN hq HQ
   go_upto_region 1 with (go_at_call 91; refine (pop_some _ HRK.out HQC.out HND2.out HQL.out hNS).mono ?_; rintro e w2 ⟨rA, rn, rc, qA, qn, qc, rfl, hr2, hq2, hb2, hfr2, hfq2⟩)
   obtain rfl : rn = 0 := hr2.1.1.symm
   refine wp_named (fun V => ∃ y, w2.heap.size = y ∧ Blk V y [.slice rA 0 rc, .slice qA qn qc] ∧ Kept [] w2 V) ⟨_, rfl, Blk.new _ _ _ _ rfl, (Kept.refl _ _).alloc _⟩ ?_
   rintro V5 ⟨y, ey, By, hkV⟩
   rw [ey]
   have ⟨Ly, Cy, Fy⟩ := By
   have M2 := MR.out.call hb2
   have MV := Lib.hid (M2.call hkV.toBelow)
   have HQV : Hid (SInO O1 V5 qA qn qc (ofNats r)) := Lib.hid ((SInO.new (O := O1) hq2 hfq2 (fun x hx => (MR.out.og x hx).2)).fx (.same hkV))
   have HRV : Hid (SIn V5 rA 0 rc []) := Lib.hid (hr2.kept hkV)
   have BV := MV.out.box
   unfold sbox at BV
   have ⟨LV, CV, FVb⟩ := BV
   clear CR FR ey hq2 hr2 HRK HQC M2 MR
   go_upto_region 3 with fail
   have hset := MV.out.set_queue HQV.out HRV.out
   refine wp_named (fun X => (∃ G, Mem p.toPb K w0 b O1 G X (s1.toq r)) ∧ Fx O O1 w X) ⟨⟨_, hset.1⟩, (FW.out.call hb2).trans ((Fx.same hkV).trans hset.2)⟩ ?_
   rintro X ⟨⟨G2, MX'⟩, FX'⟩
   have FXX := Lib.hid FX'
   have MX := Lib.hid MX'
   have BX5 := MX.out.box
   unfold sbox at BX5
   have ⟨LX5, CX5, FX5⟩ := BX5
   obtain ⟨Ab, mb, cb, hpv, hmb⟩ : ∃ A9 m9 c9, G2.pv n = .slice A9 m9 c9 ∧ m9 = (s1.pd n).length := by
     rcases (MX.out.pown n hnK).2 with ⟨h1, h2⟩ | ⟨g', cap, cur, h1, _⟩
     · exact ⟨_, _, _, h1, h2.symm⟩
     · exact ⟨_, _, _, h1, rfl⟩
   have OWN : Hid (X.ownsRow w0.heap.size 72 2 (.slice Ab mb cb) mb (pcells (s1.pd n))) := Lib.hid (by have h9 := MX.out.pown n hnK; rw [hpv, show ((s1.toq r).pd n).length = mb from hmb.symm] at h9; exact h9)
   have rP : X.cell? ⟨K.pr, n, none⟩ = some (.slice Ab mb cb) := by rw [← hpv]; exact MX.out.prow n hnK
   have fP := MX.out.pfr n
   have hprX : K.pr < X.heap.size := (MX.out.og _ MX.out.opr).2
   obtain ⟨O3, G3, M3', F3', h3o⟩ := MX.out.set_pend (n := n) (l := []) (v := .slice none 0 0) (w1 := X) hnK (Kept.refl _ _) (World.ownsRow_nil _ _ _ _) (fun _ h => by cases h) (by rw [List.length_nil, Nat.zero_add]; exact List.countP_le_length)
   have HSB : Hid (∀ a, Ab = some a → SafeB O3 (X.setCell ⟨K.pr, n, none⟩ (.slice none 0 0)) a.block ∧ a.block ≠ K.pr ∧ a.block < X.heap.size) := fun a ha => by
     have h1 : (G2.pv n).ownBlock = some a.block := by rw [hpv, ha]; rfl
     have h2 := (MX.out.dpv n a.block hnK h1).2.2.2
     have h4 := (MX.out.og _ (MX.out.opv n a.block hnK h1)).2
     exact ⟨⟨by simpa [World.setCell] using h4, fun ho => by have := h3o _ ho h1; cases this⟩, h2, h4⟩
   have HMB := Lib.hid hmb
   have HPV := Lib.hid hpv
   clear CV FVb Cy Fy hset MX' FX' hmb hpv h3o
   go_upto_region 5 with fail
   refine wp_named (fun Y => Mem p.toPb K w0 b O3 G3 Y (popS s1 n r) ∧ Fx O1 O3 X Y ∧ (∀ a, Ab = some a → SafeB O3 Y a.block) ∧ Kept [K.pr] X Y) ⟨M3', F3', fun a ha => (HSB.out a ha).1, (Kept.refl _ _).set K.pr n _ (.inl (by simp))⟩ ?_
   rintro Y ⟨MY', FY', hSY, hkXY⟩
   have FWY := Lib.hid (FXX.out.trans FY')
   have MY := Lib.hid MY'
   have HSY := Lib.hid hSY
   have HPOP := Lib.hid (IV.out.pop HQE.out)
   have HBC : Hid (∀ i (h : i < (s1.pd n).length), ∃ bb, Ab = some ⟨bb, 0, none⟩ ∧ Y.cell? ⟨bb, i * 2, none⟩ = some (.int .i64 ((s1.pd n)[i].1 : Nat)) ∧ Y.cell? ⟨bb, i * 2 + 1, none⟩ = some (.int .i64 ((s1.pd n)[i].2 : Nat))) := fun i h => by
     rcases OWN.out.2 with ⟨h1, h2⟩ | ⟨g', cap, cur, h1, _⟩
     · have := HMB.out; omega
     · injection h1 with e1 e2 e3
       have h2 := HSB.out _ e1
       obtain ⟨p1, p2⟩ := pcells_at (s1.pd n) h
       have q1 := OWN.out.cells (g := g') (by rw [e1]; rfl) _ _ p1
       have q2 := OWN.out.cells (g := g') (by rw [e1]; rfl) _ _ p2
       rw [add_lit, Nat.zero_add] at q1 q2
       exact ⟨g', e1, (hkXY.cell g' _ h2.2.2 (by simpa using h2.2.1)).trans q1, (hkXY.cell g' _ h2.2.2 (by simpa using h2.2.1)).trans q2⟩
   have hmb20 : mb ≤ 1048576000000 := by
     have h1 := MX.out.pdb n hnK
     have h3 := trip_le (N := p.ns.length) (F := p.F.toNat) (by omega) (by omega)
     have h4 := HMB.out
     have h5 : ((s1.toq r).pd n).length = (s1.pd n).length := rfl
     omega
   clear CX5 FX5 rP fP FY' MY' hSY hkXY M3' F3' HSB OWN MX
   go_wp2_with fail
   go_loopw [38] (fun s38 wz => ∃ (i : Nat) (O' : Nat → Prop) (G' : Gh), i ≤ mb ∧ s38 = .int .i64 i ∧ Hid (Mem p.toPb K w0 b O' G' wz (upTo (fun s x => stepX p n x.1 x.2 s) (s1.pd n) (popS s1 n r) i)) ∧ Hid (InvX p n ((s1.pd n).drop i) (upTo (fun s x => stepX p n x.1 x.2 s) (s1.pd n) (popS s1 n r) i)) ∧ Hid (Fx O3 O' Y wz)) (fun s38 _ => mb - (intOf s38).toNat)
   case atStart => exact ⟨0, O3, G3, Nat.zero_le _, rfl, by rw [upTo_zero]; exact MY, by rw [upTo_zero, List.drop_zero]; exact HPOP, Lib.hid (Fx.refl _ _)⟩
   case round =>
   clear MY
   rename World => wz
   obtain ⟨i, O4, G4, hi, rfl, MZ, IZ, FZ⟩ := hrel
   by_cases hlt : i < mb
   · have hi' : i < (s1.pd n).length := by rw [← HMB.out]; exact hlt
     obtain ⟨bb, rfl, c1', c2'⟩ := HBC.out i hi'
     have hsb := HSY.out _ rfl
     obtain ⟨a, d, had⟩ : ∃ a d, (s1.pd n)[i] = (a, d) := ⟨_, _, rfl⟩
     rw [had] at c1' c2'
     replace c1' := (hsb.cell FZ.out (i * 2)).trans c1'
     replace c2' := (hsb.cell FZ.out (i * 2 + 1)).trans c2'
     have hbz := (hsb.fx FZ.out).1
     have hi1 : (i : Int) < (mb : Int) := by omega
     have HDR : Hid ((s1.pd n).drop i = (a, d) :: (s1.pd n).drop (i + 1)) := Lib.hid (by rw [List.drop_eq_getElem_cons hi', had])
     have HII : Hid (InvX p n ((a, d) :: (s1.pd n).drop (i + 1)) (upTo (fun s x => stepX p n x.1 x.2 s) (s1.pd n) (popS s1 n r) i)) := Lib.hid (by have h1 := IZ.out; rw [HDR.out] at h1; exact h1)
     have haF := (HII.out.wf.rng _ _ _ (HII.out.rs (a, d) (by simp))).2.1
     have HSU : Hid (upTo (fun s x => stepX p n x.1 x.2 s) (s1.pd n) (popS s1 n r) (i + 1) = stepX p n a d (upTo (fun s x => stepX p n x.1 x.2 s) (s1.pd n) (popS s1 n r) i)) := by
       show _ = _
       rw [upTo_succ _ _ _ hi', had]
     clear had
     go_upto_region 8 with fail
     refine wp_named (fun V => ∃ y, wz.heap.size = y ∧ Blk V y [.int .i64 a, .int .i64 d] ∧ Kept [] wz V) ⟨_, rfl, Blk.new _ _ _ _ rfl, (Kept.refl _ _).alloc _⟩ ?_
     rintro V7 ⟨y7, ey, By7, hkV7⟩
     rw [ey]
     have ⟨Ly7, Cy7, Fy7⟩ := By7
     have M7 := Lib.hid (MZ.out.call hkV7.toBelow)
     clear c1' c2' ey
     go_wp2_with (go_at_call 92; refine (tstep_any _ n a d HI.out HOX.out HII.out.wf M7.out (HKX.out.fx (FWY.out.trans (FZ.out.trans (.same hkV7)))) hn haF).mono ?_; intro e w8 hG8; obtain ⟨O8, G8, rfl, M8, F8⟩ := hG8)
     exact ⟨⟨i + 1, O8, G8, by omega, by go_num, Lib.hid (M8.eq HSU.out.symm), Lib.hid (by rw [HSU.out]; exact HII.out.step HOX.out), Lib.hid (FZ.out.trans ((Fx.same hkV7).trans F8))⟩, by simp [intOf]; omega⟩
   · obtain rfl : mb = i := by omega
     have HEND : Hid (upTo (fun s x => stepX p n x.1 x.2 s) (s1.pd n) (popS s1 n r) mb = batchX p n (s1.pd n) (popS s1 n r)) := by show _ = _; rw [HMB.out, upTo_all]; rfl
     have hle := batchX_mea HOX.out (s1.pd n) HPOP.out
     have hpop := mea_pop (p := p.toPb) HQE.out
     have hlm : PM (mea p.toPb (batchX p n (s1.pd n) (popS s1 n r))) wz := by
       rw [HPM.out]
       exact ⟨O4, G4, _, MZ.out.eq HEND.out, (batchX_inv HOX.out (s1.pd n) HPOP.out).rest 0, rfl, FWY.out.trans FZ.out⟩
     have hl2 := leastM_le hlm
     have HLM := Lib.hid hlm
     have HL2 := Lib.hid hl2
     have HLE := Lib.hid hle
     have HPP := Lib.hid hpop
     clear hlm hl2 hle hpop
     go_wp2_with fail
     refine ⟨⟨_, HLM.out⟩, ?_⟩
     have h1 := HL2.out; have h2 := HLE.out; have h3 := HPP.out; have h4 := HME.out; have h5 := HLV.out
     omega
end Go.Proofs.YtooejoajojanjaaGreatDoor
namespace Go.Df
open Go.RowKit
def mixB (a b : List Nat) (n i : Nat) : List Nat := (List.range n).map fun x => if x < i then gw a x ||| gw b x else 0
end Go.Df
namespace Go.Proofs.YtooejoajojanjaaGreatDoor
open Go.RowKit Go.Df Go.Df.If
attribute [local go_sem ↓] Go.wp_at_zero Go.wp_at_succ
end Go.Proofs.YtooejoajojanjaaGreatDoor
namespace Go.Df
open Go.RowKit
def woB (l : List Nat) (n : Nat) : List Nat := (List.range n).map fun i => if i = 0 then gw l 0 &&& 18446744073709551614 else gw l i
end Go.Df
namespace Go.Proofs.YtooejoajojanjaaGreatDoor
open Go.RowKit Go.Df Go.Df.If
attribute [local go_sem ↓] Go.wp_at_zero Go.wp_at_succ
end Go.Proofs.YtooejoajojanjaaGreatDoor
namespace Go.Df
open Go.RowKit Go.Maps Go.ChangeMaps
def RgT (P : Program) (k : TypeId) (z : Value) (w : World) (b r n : Nat) (f : Value → Value) (left : Lit → Bool) (cnt : Nat) : Prop :=
 ∃ D : DataW Value, w.ranges P k tokElem b r n D left cnt ∧ Reads P k z D f
variable {P : Program} {k : TypeId} {z : Value} {w w' : World} {b r n : Nat} {f : Value → Value} {left : Lit → Bool} {cnt : Nat}
theorem RgT.left_eq (h : RgT P k z w b r n f left cnt) : w.rangeLeft b r = cnt := let ⟨_, h1, _⟩ := h; h1.left_eq
theorem RgT.lt (h : RgT P k z w b r n f left cnt) : r < w.heap.size := let ⟨_, h1, _⟩ := h; h1.lt
theorem RgT.grown {row : Option Nat} (h : RgT P k z w b r n f left cnt) (hg : w.grownBy w' row) (hb : some b ≠ row) (hr : some r ≠ row) : RgT P k z w' b r n f left cnt :=
 let ⟨D, h1, h2⟩ := h; ⟨D, h1.kept hg hb hr, h2⟩
theorem RgT.kept {X : List Nat} (h : RgT P k z w b r n f left cnt) (hk : Kept X w w') (hb : b ∉ X) (hr : r ∉ X) : RgT P k z w' b r n f left cnt := by
 obtain ⟨D, ⟨es, clock, since, seen, c0, h1, F, hs, hD, h2, rest⟩, h3⟩ := h
 have hlb := (Array.getElem?_eq_some_iff.1 h1).1
 have hlr := (Array.getElem?_eq_some_iff.1 h2).1
 exact ⟨D, ⟨es, clock, since, seen, c0, (hk.block b hlb hb).trans h1, F, hs, hD, (hk.block r hlr hr).trans h2, rest⟩, h3⟩
section
variable {ops : Array Oper} {rest : List Oper} {o : Oper} {a : Act} {Q : Exit → Act → World → Prop}
end
def RgO (P : Program) (k : TypeId) (z : Value) (w : World) (m : Option Nat) (r n : Nat) (f : Value → Value) (left : Lit → Bool) (cnt : Nat) : Prop :=
 match m with
 | some b => RgT P k z w b r n f left cnt
 | none => w.heap[r]? = some (.mapIter none 0 #[] 0) ∧ cnt = 0 ∧ ∀ kl, left kl = false
def leftO (w : World) (m : Option Nat) (r : Nat) : Nat := match m with | some b => w.rangeLeft b r | none => 0
theorem RgO.left_eq {m : Option Nat} (h : RgO P k z w m r n f left cnt) : leftO w m r = cnt := by
 cases m with
 | some b => exact RgT.left_eq h
 | none => exact h.2.1.symm
theorem RgO.lt {m : Option Nat} (h : RgO P k z w m r n f left cnt) : r < w.heap.size := by
 cases m with
 | some b => exact RgT.lt h
 | none => exact (Array.getElem?_eq_some_iff.1 h.1).1
theorem RgO.kept {m : Option Nat} {X : List Nat} (h : RgO P k z w m r n f left cnt) (hk : Kept X w w') (hb : ∀ b, m = some b → b ∉ X) (hr : r ∉ X) : RgO P k z w' m r n f left cnt := by
 cases m with
 | some b => exact RgT.kept h hk (hb b rfl) hr
 | none => exact ⟨(hk.block r (RgO.lt (m := none) h) hr).trans h.1, h.2⟩
section
variable {ops : Array Oper} {rest : List Oper} {o : Oper} {a : Act} {Q : Exit → Act → World → Prop}
end
end Go.Df
namespace Go.Df
open Go.RowKit
namespace If
open Sp
open Classical in
/-- The facts of the solution at a node, ascending. -/
noncomputable def solF (p : Pb) (i : Nat) : List Int := ofNats ((List.range p.F.toNat).filter fun d => d != 0 && decide (∃ a, PE p a i d))
open Classical in
noncomputable def solR (p : Pb) (i : Nat) : Bool := decide (PE p 0 i 0)
end If
end Go.Df
namespace Go.Df
open Go.RowKit
namespace If
open Sp
open Classical in
/-- The facts of the solution at a node, ascending. -/
noncomputable def solFX (p : Px) (i : Nat) : List Int := ofNats ((List.range p.F.toNat).filter fun d => d != 0 && decide (∃ a, PEx p a i d))
open Classical in
noncomputable def solRX (p : Px) (i : Nat) : Bool := decide (PEx p 0 i 0)
def SolAX (p : Px) (w : World) (g n i : Nat) : Prop := g < w.heap.size ∧ (∀ x, x < n → w.cell? ⟨g, x, none⟩ = some (.bool (decide (x < i) && solRX p x))) ∧ ∀ x, w.frozen? ⟨g, x, none⟩ = false
theorem SolAX.kept {p : Px} {X : List Nat} {w w' : World} {g n i : Nat} (h : SolAX p w g n i) (hk : Kept X w w') (hX : g ∉ X) : SolAX p w' g n i :=
 ⟨Nat.lt_of_lt_of_le h.1 hk.size, fun x hx => (hk.cell g x h.1 hX).trans (h.2.1 x hx), fun x => (hk.frozen g x h.1 hX).trans (h.2.2 x)⟩
theorem SolAX.set {p : Px} {w : World} {g n i : Nat} (h : SolAX p w g n i) (hi : i < n) : SolAX p (w.setCell ⟨g, i, none⟩ (.bool (solRX p i))) g n (i + 1) := by
 refine ⟨by simpa [World.setCell] using h.1, fun x hx => ?_, fun x => by simpa using h.2.2 x⟩
 by_cases e : x = i
 · subst e
   rw [set_same (h.2.1 x hx)]
   simp
 · rw [set_other (by right; simpa using fun e' => e e'.symm), h.2.1 x hx]
   have : decide (x < i + 1) = decide (x < i) := by by_cases h1 : x < i <;> simp [h1] <;> omega
   rw [this]
def SolBX (p : Px) (base : Nat) (w : World) (g n i : Nat) : Prop := g < base ∧ g < w.heap.size ∧ (∀ x, x < n → ∃ A m c, w.cell? ⟨g, x, none⟩ = some (.slice A m c) ∧ Ints w A m (if x < i then solFX p x else []) ∧ m ≤ 9223372036854775807 ∧ ∀ a, A = some a → base ≤ a.block) ∧ ∀ x, w.frozen? ⟨g, x, none⟩ = false
theorem ints_apartX {X : List Nat} {w w' : World} {A : Option Addr} {m base : Nat} {l : List Int} (h : Ints w A m l) (hA : ∀ a, A = some a → base ≤ a.block) (hk : Kept X w w') (hX : ∀ x ∈ X, x < base) : Ints w' A m l :=
 ⟨h.1, fun hn => by
   obtain ⟨b, o, e, hl, hc⟩ := h.2 hn
   exact ⟨b, o, e, Nat.lt_of_lt_of_le hl hk.size, fun i hi => (hk.cell b (o + i) hl (fun hm => by have h1 := hX b hm; have h2 : base ≤ b := hA _ e; omega)).trans (hc i hi)⟩⟩
theorem SolBX.kept {p : Px} {base : Nat} {X : List Nat} {w w' : World} {g n i : Nat} (h : SolBX p base w g n i) (hk : Kept X w w') (hX : g ∉ X) (hX2 : ∀ x ∈ X, x < base) : SolBX p base w' g n i :=
 ⟨h.1, Nat.lt_of_lt_of_le h.2.1 hk.size, fun x hx => by
   obtain ⟨A, m, c, h1, h2, h3, h4⟩ := h.2.2.1 x hx
   exact ⟨A, m, c, (hk.cell g x h.2.1 hX).trans h1, ints_apartX h2 h4 hk hX2, h3, h4⟩, fun x => (hk.frozen g x h.2.1 hX).trans (h.2.2.2 x)⟩
theorem SolBX.set {p : Px} {base : Nat} {w : World} {g n i : Nat} {A : Option Addr} {m c : Nat} (h : SolBX p base w g n i) (hi : i < n) (hA : Ints w A m (solFX p i)) (hm : m ≤ 9223372036854775807) (hb : ∀ a, A = some a → base ≤ a.block) :
   SolBX p base (w.setCell ⟨g, i, none⟩ (.slice A m c)) g n (i + 1) := by
 have hk : Kept [g] w (w.setCell ⟨g, i, none⟩ (.slice A m c)) := (Kept.refl [g] w).set g i _ (.inl (by simp))
 refine ⟨h.1, by simpa [World.setCell] using h.2.1, fun x hx => ?_, fun x => by simpa using h.2.2.2 x⟩
 obtain ⟨A', m', c', h1, h2, h3, h4⟩ := h.2.2.1 x hx
 by_cases e : x = i
 · subst e
   refine ⟨A, m, c, set_same h1, ?_, hm, hb⟩
   rw [if_pos (by omega)]
   exact ints_apartX hA hb hk (by simpa using h.1)
 · refine ⟨A', m', c', ?_, ?_, h3, h4⟩
   · rw [set_other (by right; simpa using fun e' => e e'.symm)]; exact h1
   · have : (x < i + 1) = (x < i) := by simp; omega
     simp only [this]
     exact ints_apartX h2 h4 hk (by simpa using h.1)
def UnL (h : Nat → Nat → Bool) (l : List Nat) (left : Lit → Bool) : Prop := ∀ y, hasB l y = true ↔ ∃ a : Nat, left (.int .i64 (a : Int)) = false ∧ h a y = true
theorem UnL.init {h : Nat → Nat → Bool} {left : Lit → Bool} (hz : ∀ a y, left (.int .i64 ((a : Nat) : Int)) = false → h a y = false) : UnL h [] left := fun y => by
 rw [hasB_nil]
 refine ⟨fun h' => absurd h' (by simp), fun ⟨a, h1, h2⟩ => ?_⟩
 rw [hz a y h1] at h2
 exact h2
theorem left_minus (left : Lit → Bool) (x a : Int) : (left (.int .i64 a) && !(Lit.int .i64 a).sameKey (.int .i64 x)) = false ↔ (left (.int .i64 a) = false ∨ a = x) := by
 have : (Lit.int .i64 a).sameKey (.int .i64 x) = decide (a = x) := by
   simp [Lit.sameKey]
 rw [this]
 by_cases e : a = x <;> simp [e]
theorem UnL.step {h : Nat → Nat → Bool} {l l' : List Nat} {left : Lit → Bool} {x : Nat} (hu : UnL h l left) (hl : ∀ y, hasB l' y = (hasB l y || h x y)) : UnL h l' (fun z => left z && !z.sameKey (.int .i64 (x : Int))) := fun y => by
 rw [hl y, Bool.or_eq_true, hu y]
 constructor
 · rintro (⟨a, h1, h2⟩ | h1)
   · exact ⟨a, (left_minus _ _ _).2 (.inl h1), h2⟩
   · exact ⟨x, (left_minus _ _ _).2 (.inr rfl), h1⟩
 · rintro ⟨a, h1, h2⟩
   rcases (left_minus _ _ _).1 h1 with h3 | h3
   · exact .inl ⟨a, h3, h2⟩
   · obtain rfl : a = x := by omega
     exact .inr h2
theorem UnL.neg {h : Nat → Nat → Bool} {l l' : List Nat} {left : Lit → Bool} {x : Int} (hu : UnL h l left) (hx : x < 0) (hl : ∀ y, hasB l' y = hasB l y) : UnL h l' (fun z => left z && !z.sameKey (.int .i64 x)) := fun y => by
 rw [hl y, hu y]
 constructor
 · rintro ⟨a, h1, h2⟩
   exact ⟨a, (left_minus _ _ _).2 (.inl h1), h2⟩
 · rintro ⟨a, h1, h2⟩
   rcases (left_minus _ _ _).1 h1 with h3 | h3
   · exact ⟨a, h3, h2⟩
   · omega
end If
end Go.Df
namespace Go.Proofs.YtooejoajojanjaaGreatDoor
open Go.RowKit Go.Df Go.Df.If
attribute [local go_sem ↓] Go.wp_at_zero Go.wp_at_succ
def GetSolX (p : Px) (w : World) (e : Ending) (w' : World) : Prop :=
 ∃ A1 A2 n, e = .returned (.agg #[.slice A1 n n, .slice A2 n n]) ∧ n = p.ns.length ∧ (∀ Y XX, Kept XX w' Y → (∀ x ∈ XX, x < w.heap.size) → Bls Y A1 n ((List.range n).map (solRX p)) ∧ IntsR Y A2 n ((List.range n).map (solFX p))) ∧ Below w.heap.size w w'
end Go.Proofs.YtooejoajojanjaaGreatDoor
namespace Go.Proofs.YtooejoajojanjaaGreatDoor
open Go.RowKit Go.Df
attribute [local go_sem ↓] Go.wp_at_zero Go.wp_at_succ
set_option maxRecDepth 100000 in
set_option maxHeartbeats 4000000 in
theorem matches_any (A1 A2 : Option Addr) (n1 c1 n2 c2 : Nat) (mn : Int) (p q m1 m2 : Nat) (ea eb : Nat) (ek ec : Int) (ns : List Sp.Nd) (st : Int → Int) (en : Int → Int → Bool) (w : World) (hn : Nds w A1 n1 ns) (hs : n1 ≤ 1000000)
   (ha : ea < n1) (hb : eb < n1) (hc : ek ≠ 1 → ek ≠ 5 → ek ≠ 2 → 0 ≤ ec ∧ ec < n1) (hw : ∀ j, j < n1 → (Lit.int .i64 (gn ns j).f).wf = true) (hst : ∀ x, 0 ≤ st x ∧ st x ≤ 1000000)
   (Mp : MapV Tryz.prog 3 3 (.int .i64 0) w p m1 (mv st)) (Mq : MapV Tryz.prog 214 4 (.bool false) w q m2 (mb en)) :
   Calls Tryz.prog 125 #[.agg #[.slice A1 n1 c1, .slice A2 n2 c2, .int .i64 mn], .map (some p), .map (some q), .agg #[.int .i64 ea, .int .i64 eb, .int .i64 ek, .int .i64 ec]] w fun e w' =>
     e = .returned (.bool (Sp.matchN ek ec ea (gn ns ea) (gn ns eb) (gn ns ec.toNat) (en ec (st (gn ns ea).f)))) ∧ Below w.heap.size w w' := by
 have HWF := Lib.hid hw
 have HST := Lib.hid hst
 have MP := Lib.hid Mp
 have MQ := Lib.hid Mq
 have HC := Lib.hid hc
 obtain ⟨b, o, rfl, hl, hcl⟩ := hn.2 (by omega)
 obtain ⟨p1, p2, p3⟩ := hcl ea ha
 obtain ⟨q1, q2, q3⟩ := hcl eb hb
 have HCl := Lib.hid hcl
 clear hn hc hcl hw hst Mp Mq
 go_enter Tryz.func125, Tryz.ntmps125
 go_upto_region 1 with fail
 refine wp_named (fun W => ∃ b0 b1, w.heap.size = b0 ∧ w.heap.size + 1 = b1 ∧ Blk W b0 [.slice (some ⟨b, o, none⟩) n1 c1, .slice A2 n2 c2, .int .i64 mn] ∧ Blk W b1 [.int .i64 ea, .int .i64 eb, .int .i64 ek, .int .i64 ec] ∧ Below w.heap.size w W) ⟨_, _, rfl, rfl, ?_, ?_, ?_⟩ ?_
 · exact (Blk.new _ _ _ _ (by first | rfl | simp)).alloc _
 · exact kbn
 · go_grown
 rintro W ⟨b0, b1, e0, e1, B0, B1, hB⟩
 rw [e1, e0]
 have G0 : w.heap.size ≤ b0 := by omega
 have n01 : b0 ≠ b1 := by omega
 have G1 : w.heap.size ≤ b1 := by omega
 have n10 : b1 ≠ b0 := by omega
 clear e0 e1
 have ⟨L0, C0, F0⟩ := B0
 have ⟨L1, C1, F1⟩ := B1
 have hlW : b < W.heap.size := Nat.lt_of_lt_of_le hl hB.size
 obtain ⟨f1, k1, i1, e1⟩ : ∃ f k i, gn ns ea = ⟨f, k, i⟩ := ⟨_, _, _, rfl⟩
 obtain ⟨f2, k2, i2, e2⟩ : ∃ f k i, gn ns eb = ⟨f, k, i⟩ := ⟨_, _, _, rfl⟩
 rw [e1] at p1 p2 p3
 rw [e2] at q1 q2 q3
 have r1 : W.cell? ⟨b, o + ea * 3, none⟩ = some (.int .i64 f1) := (hB.cell (p := ⟨b, _, none⟩) hl).trans p1
 have r2 : W.cell? ⟨b, o + ea * 3 + 1, none⟩ = some (.int .i64 k1) := (hB.cell (p := ⟨b, _, none⟩) hl).trans p2
 have r3 : W.cell? ⟨b, o + ea * 3 + 2, none⟩ = some (.int .i64 i1) := (hB.cell (p := ⟨b, _, none⟩) hl).trans p3
 have r4 : W.cell? ⟨b, o + eb * 3, none⟩ = some (.int .i64 f2) := (hB.cell (p := ⟨b, _, none⟩) hl).trans q1
 have r5 : W.cell? ⟨b, o + eb * 3 + 1, none⟩ = some (.int .i64 k2) := (hB.cell (p := ⟨b, _, none⟩) hl).trans q2
 have r6 : W.cell? ⟨b, o + eb * 3 + 2, none⟩ = some (.int .i64 i2) := (hB.cell (p := ⟨b, _, none⟩) hl).trans q3
 have E1 := Lib.hid e1
 have E2 := Lib.hid e2
 have x1 : (0 : Int) ≤ (ea : Int) := by omega
 have x2 : (ea : Int) < (n1 : Int) := by omega
 have x3 : (0 : Int) ≤ (eb : Int) := by omega
 have x4 : (eb : Int) < (n1 : Int) := by omega
 clear p1 p2 p3 q1 q2 q3 e1 e2
 go_upto_region 1 with fail
 go_cut [9, 10] (fun s t wx => ∃ g5 g6 : Nat, s = .pointer (some ⟨g5, 0, none⟩) ∧ t = .pointer (some ⟨g6, 0, none⟩) ∧ Blk wx g5 [.int .i64 f1, .int .i64 k1, .int .i64 i1] ∧ Blk wx g6 [.int .i64 f2, .int .i64 k2, .int .i64 i2] ∧ Kept [] W wx)
 case first =>
   go_region_held3 (fun w' => SX0 W w') (exact kp0) (fail)
   all_goals
     go_wp2_with fail
     go_meet
     refine ⟨_, _, rfl, rfl, ?_, ?_, ?_⟩
     · (exact kpb)
     · (exact kpb)
     · (exact kpt0)
 case rest =>
   obtain ⟨g5, g6, rfl, rfl, B5, B6, hkc⟩ := hcut
   have BC0 := hkc.blk (by simp) B0
   have BC1 := hkc.blk (by simp) B1
   have ⟨L0', C0', F0'⟩ := BC0
   have ⟨L1', C1', F1'⟩ := BC1
   have ⟨L5, C5, F5⟩ := B5
   have ⟨L6, C6, F6⟩ := B6
   have hBc := hkc.below hB hB.size (by simp)
   have HF : Hid (Sp.matchN ek ec ea (gn ns ea) (gn ns eb) (gn ns ec.toNat) (en ec (st (gn ns ea).f)) = Sp.matchN ek ec ea ⟨f1, k1, i1⟩ ⟨f2, k2, i2⟩ (gn ns ec.toNat) (en ec (st f1))) := by
     show Sp.matchN _ _ _ _ _ _ _ = _
     rw [E1.out, E2.out]
   clear C0 F0 C1 F1 r1 r2 r3 r4 r5 r6
   by_cases h1 : ek = 1
   · have t1 : (ek == 1) = true := by simpa using h1
     have HH := Lib.hid h1
     clear h1
     go_wp2_with fail
     all_goals
       go_ret
       refine ⟨ret_bool ?_, hBc⟩
       rw [HF.out, HH.out]
       clear C0' C1' C5 C6 F0' F1' F5 F6
       first | (simp_all [Sp.matchN]; done) | (simp_all [Sp.matchN]; rw [Bool.eq_iff_iff]; simp_all; try omega)
   · have t1 : (ek == 1) = false := by simpa using h1
     by_cases h5 : ek = 5
     · have t5 : (ek == 5) = true := by simpa using h5
       have HH := Lib.hid h5
       clear h5 h1
       go_wp2_with fail
       all_goals
         go_ret
         refine ⟨ret_bool ?_, hBc⟩
         rw [HF.out, HH.out]
         clear C0' C1' C5 C6 F0' F1' F5 F6
         first | (simp_all [Sp.matchN]; done) | (simp_all [Sp.matchN]; rw [Bool.eq_iff_iff]; simp_all; try omega)
     · have t5 : (ek == 5) = false := by simpa using h5
       by_cases h2 : ek = 2
       · have t2 : (ek == 2) = true := by simpa using h2
         have HH := Lib.hid h2
         clear h2 h1 h5
         go_wp2_with fail
         all_goals
           go_ret
           refine ⟨ret_bool ?_, hBc⟩
           rw [HF.out, HH.out]
           clear C0' C1' C5 C6 F0' F1' F5 F6
           first | (simp_all [Sp.matchN]; done) | (simp_all [Sp.matchN]; rw [Bool.eq_iff_iff]; simp_all; try omega)
       · have t2 : (ek == 2) = false := by simpa using h2
         obtain ⟨c0, cn⟩ := HC.out h1 h5 h2
         obtain ⟨x, rfl⟩ := Int.eq_ofNat_of_zero_le c0
         have hx : x < n1 := by omega
         obtain ⟨s1, s2, s3⟩ := HCl.out x hx
         obtain ⟨f3, k3, i3, e3⟩ : ∃ f k i, gn ns x = ⟨f, k, i⟩ := ⟨_, _, _, rfl⟩
         rw [e3] at s1 s2 s3
         have u1 : wc.cell? ⟨b, o + x * 3, none⟩ = some (.int .i64 f3) := (hBc.cell (p := ⟨b, _, none⟩) hl).trans s1
         have u2 : wc.cell? ⟨b, o + x * 3 + 1, none⟩ = some (.int .i64 k3) := (hBc.cell (p := ⟨b, _, none⟩) hl).trans s2
         have u3 : wc.cell? ⟨b, o + x * 3 + 2, none⟩ = some (.int .i64 i3) := (hBc.cell (p := ⟨b, _, none⟩) hl).trans s3
         have E3 := Lib.hid e3
         have hlc : b < wc.heap.size := Nat.lt_of_lt_of_le hl hBc.size
         obtain ⟨s, hse⟩ : ∃ s, st f1 = s := ⟨_, rfl⟩
         obtain ⟨cb, hcb⟩ : ∃ cb, en x s = cb := ⟨_, rfl⟩
         have hf1 : (Lit.int .i64 f1).wf = true := by have := HWF.out ea ha; rw [E1.out] at this; exact this
         have HK1 := Lib.hid (Tryz.keyInt f1 hf1)
         have hsb := HST.out f1
         rw [hse] at hsb
         obtain ⟨kl, hkl⟩ := Tryz.keyEdge (x : Int) s (WalkArith.wf_i64 (by omega)) (WalkArith.wf_i64 (by omega))
         have HK2 := Lib.hid hkl
         have HV1 := Lib.hid (show mv st (.int .i64 f1) = .int .i64 s from congrArg _ hse)
         have HV2 := Lib.hid (show mb en (.agg #[.int .i64 (x : Int), .int .i64 s]) = .bool cb from congrArg Lit.bool hcb)
         have HF2 : Hid (Sp.matchN ek x ea (gn ns ea) (gn ns eb) (gn ns x) (en x (st (gn ns ea).f)) = (decide (k1 = if ek = 4 then 4 else 3) && decide (k3 = 2) && cb && decide (f2 = f3) && decide (k2 ≠ 1))) := by
           show Sp.matchN _ _ _ _ _ _ _ = _
           rw [E1.out, E2.out, E3.out]
           dsimp only
           rw [hse, hcb]
           unfold Sp.matchN
           rw [if_neg h1, if_neg h5, if_neg h2]
         clear s1 s2 s3 e3 hse hcb hkl hf1 hsb HF
         by_cases h4 : ek = 4
         all_goals
           first
             | (have t4 : (ek == 4) = true := by simpa using h4)
             | (have t4 : (ek == 4) = false := by simpa using h4)
           obtain ⟨lv, hlv⟩ : ∃ lv : Int, lv = (if ek = 4 then 4 else 3) := ⟨_, rfl⟩
           obtain ⟨v1, hv1⟩ : ∃ v, (k1 == lv) = v := ⟨_, rfl⟩
           obtain ⟨v2, hv2⟩ : ∃ v, (k3 == 2) = v := ⟨_, rfl⟩
           obtain ⟨v4, hv4⟩ : ∃ v, (f2 == f3) = v := ⟨_, rfl⟩
           obtain ⟨v5, hv5⟩ : ∃ v, (k2 != 1) = v := ⟨_, rfl⟩
           have HF3 : Hid (Sp.matchN ek x ea (gn ns ea) (gn ns eb) (gn ns x) (en x (st (gn ns ea).f)) = (v1 && v2 && cb && v4 && v5)) := by
             show Sp.matchN _ _ _ _ _ _ _ = _
             rw [HF2.out, ← hlv, ← hv1, ← hv2, ← hv4, ← hv5]
             rw [Bool.eq_iff_iff]
             simp
           clear HF2
           first
             | (have hl4 : lv = 4 := by rw [hlv, if_pos h4])
             | (have hl4 : lv = 3 := by rw [hlv, if_neg h4])
           subst hl4
           clear h4 h1 h2 h5 hlv
           go_upto_region 13 with fail
           refine wp_named (fun V => ∃ g, wc.heap.size = g ∧ Blk V g [.int .i64 f3, .int .i64 k3, .int .i64 i3] ∧ Kept [] wc V) ⟨_, rfl, Blk.new _ _ _ _ rfl, (Kept.refl _ _).alloc _⟩ ?_
           rintro V ⟨g, eg, Bg, hkV⟩
           rw [eg]
           have hkw : Kept [] W V := keptTrans hkc hkV
           have hBV := hkw.below hB hB.size (by simp)
           have ⟨M0, D0, G0'⟩ := hkV.blk (by simp) BC0
           have ⟨M1, D1, G1'⟩ := hkV.blk (by simp) BC1
           have ⟨M5, D5, G5'⟩ := hkV.blk (by simp) B5
           have ⟨M6, D6, G6'⟩ := hkV.blk (by simp) B6
           have ⟨Mg, Dg, Gg⟩ := Bg
           have kw0 : Kept [] w V := (Kept.refl _ _).call hBV
           have MPV := Lib.hid (MP.out.kept kw0 (by simp))
           have MQV := Lib.hid (MQ.out.kept kw0 (by simp))
           clear C0' C1' C5 C6 F0' F1' F5 F6 u1 u2 u3 eg
           cases v1 with
           | false =>
             go_wp2_with fail
             go_ret
             exact ⟨ret_bool (HF3.out.trans (by simp)).symm, hBV⟩
           | true =>
           cases v2 with
           | false =>
             go_wp2_with fail
             go_ret
             exact ⟨ret_bool (HF3.out.trans (by simp)).symm, hBV⟩
           | true =>
           cases cb with
           | false =>
             go_wp2_with (first | (at_lookup; refine wpList_look_intg _ rfl _ _ 209 rfl 3 3 Tryz.lawInt Tryz.mapII Tryz.undInt (Tryz.zeroInt _) p m1 _ rfl MPV.out (.int .i64 f1) _ rfl HK1.out s HV1.out ?_) | (at_lookup; refine wpList_look_boolg _ rfl _ _ 212 rfl 214 4 Tryz.lawEdge Tryz.mapEB Tryz.undBool (Tryz.zeroBool _) q m2 _ rfl MQV.out (.agg #[.int .i64 (x : Int), .int .i64 s]) _ rfl HK2.out false HV2.out ?_) | go_in)
             go_ret
             exact ⟨ret_bool (HF3.out.trans (by simp)).symm, hBV⟩
           | true =>
           cases v4 with
           | false =>
             go_wp2_with (first | (at_lookup; refine wpList_look_intg _ rfl _ _ 209 rfl 3 3 Tryz.lawInt Tryz.mapII Tryz.undInt (Tryz.zeroInt _) p m1 _ rfl MPV.out (.int .i64 f1) _ rfl HK1.out s HV1.out ?_) | (at_lookup; refine wpList_look_boolg _ rfl _ _ 212 rfl 214 4 Tryz.lawEdge Tryz.mapEB Tryz.undBool (Tryz.zeroBool _) q m2 _ rfl MQV.out (.agg #[.int .i64 (x : Int), .int .i64 s]) _ rfl HK2.out true HV2.out ?_) | go_in)
             go_ret
             exact ⟨ret_bool (HF3.out.trans (by simp)).symm, hBV⟩
           | true =>
           cases v5 with
           | false =>
             go_wp2_with (first | (at_lookup; refine wpList_look_intg _ rfl _ _ 209 rfl 3 3 Tryz.lawInt Tryz.mapII Tryz.undInt (Tryz.zeroInt _) p m1 _ rfl MPV.out (.int .i64 f1) _ rfl HK1.out s HV1.out ?_) | (at_lookup; refine wpList_look_boolg _ rfl _ _ 212 rfl 214 4 Tryz.lawEdge Tryz.mapEB Tryz.undBool (Tryz.zeroBool _) q m2 _ rfl MQV.out (.agg #[.int .i64 (x : Int), .int .i64 s]) _ rfl HK2.out true HV2.out ?_) | go_in)
             go_ret
             exact ⟨ret_bool (HF3.out.trans (by simp)).symm, hBV⟩
           | true =>
             go_wp2_with (first | (at_lookup; refine wpList_look_intg _ rfl _ _ 209 rfl 3 3 Tryz.lawInt Tryz.mapII Tryz.undInt (Tryz.zeroInt _) p m1 _ rfl MPV.out (.int .i64 f1) _ rfl HK1.out s HV1.out ?_) | (at_lookup; refine wpList_look_boolg _ rfl _ _ 212 rfl 214 4 Tryz.lawEdge Tryz.mapEB Tryz.undBool (Tryz.zeroBool _) q m2 _ rfl MQV.out (.agg #[.int .i64 (x : Int), .int .i64 s]) _ rfl HK2.out true HV2.out ?_) | go_in)
             go_ret
             exact ⟨ret_bool (HF3.out.trans (by simp)).symm, hBV⟩
end Go.Proofs.YtooejoajojanjaaGreatDoor
