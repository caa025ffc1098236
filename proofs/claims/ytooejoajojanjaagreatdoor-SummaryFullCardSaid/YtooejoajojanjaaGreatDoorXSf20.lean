/- Texts: Vr Ks. -/
import Derived.Test.YtooejoajojanjaaGreatDoorXSf19
import Derived.Test.YtooejoajojanjaaGreatDoorXSf07
import Derived.Test.YtooejoajojanjaaGreatDoorXSf06
import Derived.Test.YtooejoajojanjaaGreatDoorXSf05
namespace Go.Df
open Go.RowKit
theorem Kept.trans0 {w w' w'' : World} (h : Kept [] w w') (k : Kept [] w' w'') : Kept [] w w'' := keptTrans h k
namespace If
open Sp
structure EfW (p : Px) (AL : Option Addr) (nL : Nat) (u : Bool) (w0 : World) : Prop where
 no : p.kn = none → u = false
 yes : ∀ L, p.kn = some L → u = true ∧ nL ≤ 256 ∧ SmW w0 AL nL L ∧ ∀ i, i < nL → (gS L i).x.length ≤ 8192 ∧ (gS L i).y.length ≤ 8192
theorem gS_mem {L : List Su} {i : Nat} (h : i < L.length) : gS L i ∈ L := by
 have e : gS L i = L[i] := by simp [gS, h]
 rw [e]
 exact List.getElem_mem h
theorem mem_gS {L : List Su} {u : Su} (h : u ∈ L) : ∃ i, i < L.length ∧ gS L i = u := by
 obtain ⟨i, hi, e⟩ := List.getElem_of_mem h
 exact ⟨i, hi, by rw [← e]; simp [gS, hi]⟩
theorem endP_mem {ns : List Nd} {L : List Su} {x : Nat} {q : Pr} : q ∈ endP ns L x ↔ ∃ i, i < L.length ∧ (gS L i).f = (gn ns x).f ∧ q ∈ (if (gn ns x).k = 4 then (gS L i).y else (gS L i).x) := by
 unfold endP
 rw [List.mem_flatMap]
 constructor
 · rintro ⟨u, hu, h⟩
   obtain ⟨i, hi, rfl⟩ := mem_gS hu
   by_cases e : (gS L i).f = (gn ns x).f
   · rw [if_pos e] at h; exact ⟨i, hi, e, h⟩
   · rw [if_neg e] at h; cases h
 · rintro ⟨i, hi, e, h⟩
   exact ⟨gS L i, gS_mem hi, by rw [if_pos e]; exact h⟩
end If
end Go.Df
namespace Go.Proofs.YtooejoajojanjaaGreatDoor
open Go.RowKit Go.Df Go.Df.If
attribute [local go_sem ↓] Go.wp_at_zero Go.wp_at_succ
variable {p : Px} {N F mN : Nat} {A1 A2 A3 A4 : Option Addr} {n2 n3 n4 : Nat} {X : List Nat} {bs : Nat → Nat} {r : Nat} {w0 w : World} {T : Nat → Nat → Nat → Bool} {AL : Option Addr} {nL : Nat} {u : Bool}
set_option maxRecDepth 100000 in
set_option maxHeartbeats 8000000 in
theorem rdoesX_is (c1 c2 c3 c4 c cL b x d : Nat) (v : Bool) (w : World) (hE : EfW p AL nL u w0) (hN0 : Nds w0 A1 N p.ns) (hb0 : Below w0.heap.size w0 w) (hT : TabM N F X bs r w T) (hN : N ≤ 8192) (hF : F ≤ 1024) (hx : x < N) (hb : b < F) (hd : d < F) (hv : v = true ↔ doesX p T x b d) :
   Calls Tryz.prog 139 #[.agg #[.slice A1 N c1, .slice A2 n2 c2, .int .i64 mN, .int .i64 (F : Nat), .slice A3 n3 c3, .slice A4 n4 c4, .int .i64 (F : Nat), .slice (some ⟨r, 0, none⟩) N c, .slice AL nL cL, .bool u], .int .i64 b, .int .i64 x, .int .i64 d] w fun e w' => e = .returned (.bool v) ∧ Below w.heap.size w w' := by
 have HT := Lib.hid hT
 have HV := Lib.hid hv
 cases hkn : p.kn with
 | none =>
   obtain rfl := hE.no hkn
   have HV2 : Hid (T x b d = v) := by
     show _ = _
     have h1 := HV.out
     unfold doesX at h1
     rw [hkn] at h1
     simp only [Int.toNat_natCast] at h1
     cases v <;> simp_all
   clear hT hv hE hkn HV
   go_enter Tryz.func139, Tryz.ntmps139
   go_upto_region 1 with fail
   refine wp_named (fun W => ∃ b0, w.heap.size = b0 ∧ Blk W b0 [.slice A1 N c1, .slice A2 n2 c2, .int .i64 mN, .int .i64 (F : Nat), .slice A3 n3 c3, .slice A4 n4 c4, .int .i64 (F : Nat), .slice (some ⟨r, 0, none⟩) N c, .slice AL nL cL, .bool false] ∧ Below w.heap.size w W) ⟨_, rfl, ?_, ?_⟩ ?_
   · exact kbn
   · go_grown
   rintro W ⟨b0, e0, B0, hB⟩
   rw [e0]
   have G0 : w.heap.size ≤ b0 := by omega
   clear e0
   have ⟨L0, C0, F0⟩ := B0
   have TW := Lib.hid (HT.out.later hB)
   go_wp2_with (go_at_call 64; refine (rtHas_is c b x d v _ TW.out hN hF hx hb hd HV2.out).mono ?_; rintro e w3 ⟨rfl, hb3⟩)
   go_ret
   exact ⟨rfl, hB.trans (hb3.mono hB.size)⟩
 | some L =>
 obtain ⟨rfl, hL9, hSm, hLn⟩ := hE.yes L hkn
 have HKN := Lib.hid hkn
 have HSM := Lib.hid hSm
 have HLN := Lib.hid hLn
 obtain ⟨bn, on, rfl, hln, hcn⟩ := hN0.2 (by omega)
 obtain ⟨n1, n2', n3'⟩ := hcn x hx
 obtain ⟨nf, hnf⟩ : ∃ y, (gn p.ns x).f = y := ⟨_, rfl⟩
 obtain ⟨nk, hnk⟩ : ∃ y, (gn p.ns x).k = y := ⟨_, rfl⟩
 obtain ⟨ni, hni⟩ : ∃ y, (gn p.ns x).i = y := ⟨_, rfl⟩
 rw [hnf] at n1
 rw [hnk] at n2'
 rw [hni] at n3'
 obtain ⟨prt, hprt⟩ : ∃ prt : Su → List Pr, prt = fun s => if nk = 4 then s.y else s.x := ⟨_, rfl⟩
 have HEND : Hid (∀ q, q ∈ endP p.ns L x ↔ ∃ i, i < L.length ∧ (gS L i).f = nf ∧ q ∈ prt (gS L i)) := fun q => by rw [endP_mem, hnf, hnk, hprt]
 have HPR := Lib.hid hprt
 have hx9 : (x : Int) < (N : Int) := by omega
 clear hT hv hE hkn hSm hLn hcn hnf hnk hni hprt hN0
 go_enter Tryz.func139, Tryz.ntmps139
 go_upto_region 1 with fail
 refine wp_named (fun W => ∃ b0, w.heap.size = b0 ∧ Blk W b0 [.slice (some ⟨bn, on, none⟩) N c1, .slice A2 n2 c2, .int .i64 mN, .int .i64 (F : Nat), .slice A3 n3 c3, .slice A4 n4 c4, .int .i64 (F : Nat), .slice (some ⟨r, 0, none⟩) N c, .slice AL nL cL, .bool true] ∧ Below w.heap.size w W) ⟨_, rfl, ?_, ?_⟩ ?_
 · exact kbn
 · go_grown
 rintro W ⟨b0, e0, B0, hB⟩
 rw [e0]
 have G0 : w.heap.size ≤ b0 := by omega
 clear e0
 have ⟨L0, C0, F0⟩ := B0
 have HBW : Hid (Below w0.heap.size w0 W) := Lib.hid (hb0.trans (hB.mono hb0.size))
 have q1 := (HBW.out.cell (p := ⟨bn, _, none⟩) hln).trans n1
 have q2 := (HBW.out.cell (p := ⟨bn, _, none⟩) hln).trans n2'
 have q3 := (HBW.out.cell (p := ⟨bn, _, none⟩) hln).trans n3'
 have hlW : bn < W.heap.size := Nat.lt_of_lt_of_le hln HBW.out.size
 clear n1 n2' n3'
 go_upto_region 4 with fail
 refine wp_named (fun V => ∃ g, W.heap.size = g ∧ Blk V g [.int .i64 nf, .int .i64 nk, .int .i64 ni] ∧ Kept [] W V) ⟨_, rfl, Blk.new _ _ _ _ rfl, (Kept.refl _ _).alloc _⟩ ?_
 rintro V ⟨bx, ex, Bx, hkV⟩
 rw [ex]
 have B0V := hkV.blk (by simp) B0
 have HBV : Hid (Below w0.heap.size w0 V) := Lib.hid (HBW.out.trans (hkV.toBelow.mono HBW.out.size))
 clear C0 F0 q1 q2 q3 ex
 go_wp2_with fail
 go_loopw [10] (fun s10 wr => ∃ i : Nat, i ≤ nL ∧ s10 = .int .i64 i ∧ Kept [] V wr ∧ Hid (∀ j, j < i → (gS L j).f = nf → ∀ y, y < (prt (gS L j)).length → gp (prt (gS L j)) y ≠ ⟨b, d⟩)) (fun s10 _ => nL - (intOf s10).toNat)
 case atStart => exact ⟨0, Nat.zero_le _, rfl, Kept.refl _ _, Lib.hid (fun j hj => absurd hj (by omega))⟩
 case round =>
 obtain ⟨i, hi, rfl, hkr, HNI⟩ := hrel
 have ⟨L0r, C0r, F0r⟩ := hkr.blk (by simp) B0V
 have ⟨Lxr, Cxr, Fxr⟩ := hkr.blk (by simp) Bx
 have hBr : Below w0.heap.size w0 wr := HBV.out.trans (hkr.toBelow.mono HBV.out.size)
 by_cases hlt : i < nL
 case neg =>
   obtain rfl : i = nL := by omega
   have hv1 : v = false := by
     cases hv9 : v with
     | false => rfl
     | true =>
       exfalso
       have h1 := HV.out.1 hv9
       unfold doesX at h1
       rw [HKN.out] at h1
       obtain ⟨j, hj, he, hm⟩ := (HEND.out _).1 h1
       obtain ⟨y, hy, e⟩ := mem_gp hm
       exact HNI.out j (by rw [← HSM.out.len]; exact hj) he y hy e
   subst hv1
   go_wp2_with fail
   go_ret
   exact ⟨rfl, hB.trans ((hkV.trans0 hkr).toBelow.mono hB.size)⟩
 obtain ⟨bL, oL, rfl, hlL, hcL⟩ := HSM.out.mem (by omega)
 obtain ⟨E, ne, ce, TH, nt, ct, s1, s2, s3, hpE, hpT⟩ := hcL i hlt
 have t1 := (hBr.cell (p := ⟨bL, _, none⟩) hlL).trans s1
 have t2 := (hBr.cell (p := ⟨bL, _, none⟩) hlL).trans s2
 have t3 := (hBr.cell (p := ⟨bL, _, none⟩) hlL).trans s3
 have hlLr : bL < wr.heap.size := Nat.lt_of_lt_of_le hlL hBr.size
 obtain ⟨sf, hsf⟩ : ∃ y, (gS L i).f = y := ⟨_, rfl⟩
 rw [hsf] at t1
 have HSF := Lib.hid hsf
 have HPE := Lib.hid hpE
 have HPT := Lib.hid hpT
 have hne : ne ≤ 8192 := by have h1 := (HLN.out i hlt).1; rw [hpE.1] at h1; exact h1
 have hnt : nt ≤ 8192 := by have h1 := (HLN.out i hlt).2; rw [hpT.1] at h1; exact h1
 have hi9 : (i : Int) < (nL : Int) := by omega
 clear hcL s1 s2 s3 hpE hpT hsf
 by_cases z : sf = nf
 case neg =>
   have z1 : (sf != nf) = true := by simpa using z
   have HN2 : Hid (∀ j, j < i + 1 → (gS L j).f = nf → ∀ y, y < (prt (gS L j)).length → gp (prt (gS L j)) y ≠ ⟨b, d⟩) := fun j hj he y hy => by
     by_cases e : j = i
     · subst e; exact absurd (HSF.out.symm.trans he) z
     · exact HNI.out j (by omega) he y hy
   clear z
   go_upto_region 7 with fail
   go_quiet (fail)
   go_wp2_with fail
   exact ⟨⟨i + 1, by omega, by go_num, hkr.drewN _, HN2⟩, by simp [intOf]; omega⟩
 have z1 : (sf != nf) = false := by simpa using z
 have HFE : Hid ((gS L i).f = nf) := Lib.hid (HSF.out.trans z)
 clear z
 go_upto_region 7 with fail
 go_quiet (fail)
 refine then_named (fun U => Kept [] wr U) (by first | exact (Kept.refl _ _).drewN _ | exact Kept.refl _ _) ?_
 rintro U hkU
 have hkr := hkr.trans0 hkU
 have ⟨L0u, C0u, F0u⟩ := hkr.blk (by simp) B0V
 have ⟨Lxu, Cxu, Fxu⟩ := hkr.blk (by simp) Bx
 have hlLu : bL < U.heap.size := Nat.lt_of_lt_of_le hlLr hkU.size
 replace t2 := (hkU.cell bL _ hlLr (by simp)).trans t2
 replace t3 := (hkU.cell bL _ hlLr (by simp)).trans t3
 clear C0r F0r Cxr Fxr t1
 by_cases h4 : nk = 4
 · subst h4
   have HPRT : Hid (prt (gS L i) = (gS L i).y) := by show _ = _; rw [HPR.out]; simp
   go_wp2_with fail
   go_loopw [12] (fun s12 wq => ∃ k : Nat, k ≤ nt ∧ s12 = .int .i64 k ∧ Kept [] V wq ∧ Hid (∀ y, y < k → gp ((gS L i).y) y ≠ ⟨b, d⟩)) (fun s12 _ => nt - (intOf s12).toNat)
   case atStart => exact ⟨0, Nat.zero_le _, rfl, hkr, Lib.hid (fun y hy => absurd hy (by omega))⟩
   case round =>
     rename World => wq
     obtain ⟨k, hk, rfl, hkq, HNO⟩ := hrel
     have hBq : Below w0.heap.size w0 wq := HBV.out.trans (hkq.toBelow.mono HBV.out.size)
     by_cases hlk : k < nt
     case neg =>
       obtain rfl : k = nt := by omega
       have HN2 : Hid (∀ j, j < i + 1 → (gS L j).f = nf → ∀ y, y < (prt (gS L j)).length → gp (prt (gS L j)) y ≠ ⟨b, d⟩) := fun j hj he y hy => by
         by_cases e : j = i
         · subst e; rw [HPRT.out] at hy ⊢; exact HNO.out y (by rw [← HPT.out.1]; exact hy)
         · exact HNI.out j (by omega) he y hy
       go_wp2_with fail
       exact ⟨⟨i + 1, by omega, by go_num, hkq, HN2⟩, by simp [intOf]; omega⟩
     obtain ⟨qb, qo, eq9, hlq, hcq⟩ := (HPT.out.later hBq).2 (by omega)
     obtain ⟨h1, h2⟩ := hcq k hlk
     subst eq9
     obtain ⟨qi, qo', eqk⟩ : ∃ qi qo', gp ((gS L i).y) k = ⟨qi, qo'⟩ := ⟨_, _, rfl⟩
     rw [eqk] at h1 h2
     have HEQ := Lib.hid eqk
     have hk9 : (k : Int) < (nt : Int) := by omega
     clear hcq eqk
     by_cases z1 : qi = (b : Int)
     · have z1' : (qi == (b : Int)) = true := by simpa using z1
       by_cases z2 : qo' = (d : Int)
       · have z2' : (qo' == (d : Int)) = true := by simpa using z2
         have hv1 : v = true := HV.out.2 (by
           show doesX p T x b d
           unfold doesX
           rw [HKN.out]
           show (⟨(b : Int), (d : Int)⟩ : Pr) ∈ endP p.ns L x
           have h3 : gp ((gS L i).y) k ∈ ((gS L i).y) := gp_mem (by rw [HPT.out.1]; exact hlk)
           rw [HEQ.out, z1, z2] at h3
           exact (HEND.out _).2 ⟨i, by rw [HSM.out.len]; exact hlt, HFE.out, by rw [HPRT.out]; exact h3⟩)
         subst hv1
         clear z1 z2
         go_wp2_with fail
         go_ret
         exact ⟨rfl, hB.trans ((hkV.trans0 hkq).toBelow.mono hB.size)⟩
       · have z2' : (qo' == (d : Int)) = false := by simpa using z2
         have HN3 : Hid (∀ y, y < k + 1 → gp ((gS L i).y) y ≠ ⟨b, d⟩) := fun y hy => by
           by_cases e : y = k
           · subst e; rw [HEQ.out]; intro h; injection h with _ h2; exact z2 h2
           · exact HNO.out y (by omega)
         clear z1 z2
         go_wp2_with fail
         exact ⟨⟨k + 1, by omega, by go_num, hkq, HN3⟩, by simp [intOf]; omega⟩
     · have z1' : (qi == (b : Int)) = false := by simpa using z1
       have HN3 : Hid (∀ y, y < k + 1 → gp ((gS L i).y) y ≠ ⟨b, d⟩) := fun y hy => by
         by_cases e : y = k
         · subst e; rw [HEQ.out]; intro h; injection h with h2 _; exact z1 h2
         · exact HNO.out y (by omega)
       clear z1
       go_wp2_with fail
       exact ⟨⟨k + 1, by omega, by go_num, hkq, HN3⟩, by simp [intOf]; omega⟩
 · have h4' : (nk == 4) = false := by simpa using h4
   have HPRT : Hid (prt (gS L i) = (gS L i).x) := by show _ = _; rw [HPR.out]; simp [h4]
   clear h4
   go_wp2_with fail
   go_loopw [12] (fun s12 wq => ∃ k : Nat, k ≤ ne ∧ s12 = .int .i64 k ∧ Kept [] V wq ∧ Hid (∀ y, y < k → gp ((gS L i).x) y ≠ ⟨b, d⟩)) (fun s12 _ => ne - (intOf s12).toNat)
   case atStart => exact ⟨0, Nat.zero_le _, rfl, hkr, Lib.hid (fun y hy => absurd hy (by omega))⟩
   case round =>
     rename World => wq
     obtain ⟨k, hk, rfl, hkq, HNO⟩ := hrel
     have hBq : Below w0.heap.size w0 wq := HBV.out.trans (hkq.toBelow.mono HBV.out.size)
     by_cases hlk : k < ne
     case neg =>
       obtain rfl : k = ne := by omega
       have HN2 : Hid (∀ j, j < i + 1 → (gS L j).f = nf → ∀ y, y < (prt (gS L j)).length → gp (prt (gS L j)) y ≠ ⟨b, d⟩) := fun j hj he y hy => by
         by_cases e : j = i
         · subst e; rw [HPRT.out] at hy ⊢; exact HNO.out y (by rw [← HPE.out.1]; exact hy)
         · exact HNI.out j (by omega) he y hy
       go_wp2_with fail
       exact ⟨⟨i + 1, by omega, by go_num, hkq, HN2⟩, by simp [intOf]; omega⟩
     obtain ⟨qb, qo, eq9, hlq, hcq⟩ := (HPE.out.later hBq).2 (by omega)
     obtain ⟨h1, h2⟩ := hcq k hlk
     subst eq9
     obtain ⟨qi, qo', eqk⟩ : ∃ qi qo', gp ((gS L i).x) k = ⟨qi, qo'⟩ := ⟨_, _, rfl⟩
     rw [eqk] at h1 h2
     have HEQ := Lib.hid eqk
     have hk9 : (k : Int) < (ne : Int) := by omega
     clear hcq eqk
     by_cases z1 : qi = (b : Int)
     · have z1' : (qi == (b : Int)) = true := by simpa using z1
       by_cases z2 : qo' = (d : Int)
       · have z2' : (qo' == (d : Int)) = true := by simpa using z2
         have hv1 : v = true := HV.out.2 (by
           show doesX p T x b d
           unfold doesX
           rw [HKN.out]
           show (⟨(b : Int), (d : Int)⟩ : Pr) ∈ endP p.ns L x
           have h3 : gp ((gS L i).x) k ∈ ((gS L i).x) := gp_mem (by rw [HPE.out.1]; exact hlk)
           rw [HEQ.out, z1, z2] at h3
           exact (HEND.out _).2 ⟨i, by rw [HSM.out.len]; exact hlt, HFE.out, by rw [HPRT.out]; exact h3⟩)
         subst hv1
         clear z1 z2
         go_wp2_with fail
         go_ret
         exact ⟨rfl, hB.trans ((hkV.trans0 hkq).toBelow.mono hB.size)⟩
       · have z2' : (qo' == (d : Int)) = false := by simpa using z2
         have HN3 : Hid (∀ y, y < k + 1 → gp ((gS L i).x) y ≠ ⟨b, d⟩) := fun y hy => by
           by_cases e : y = k
           · subst e; rw [HEQ.out]; intro h; injection h with _ h2; exact z2 h2
           · exact HNO.out y (by omega)
         clear z1 z2
         go_wp2_with fail
         exact ⟨⟨k + 1, by omega, by go_num, hkq, HN3⟩, by simp [intOf]; omega⟩
     · have z1' : (qi == (b : Int)) = false := by simpa using z1
       have HN3 : Hid (∀ y, y < k + 1 → gp ((gS L i).x) y ≠ ⟨b, d⟩) := fun y hy => by
         by_cases e : y = k
         · subst e; rw [HEQ.out]; intro h; injection h with h2 _; exact z1 h2
         · exact HNO.out y (by omega)
       clear z1
       go_wp2_with fail
       exact ⟨⟨k + 1, by omega, by go_num, hkq, HN3⟩, by simp [intOf]; omega⟩
set_option maxRecDepth 100000 in
set_option maxHeartbeats 8000000 in
theorem rreturnedX_any (k c1 c2 c3 c4 c cL : Nat) (w : World) (hE : EfW p AL nL u w0) (hP : PbW p.toPb N F mN A1 A2 A3 A4 n2 n3 n4 w0) (hb0 : Below w0.heap.size w0 w) (hX : ∀ x ∈ X, w0.heap.size ≤ x) (hT : TabM N F X bs r w T) (hk : k < n2) (hN1 : 0 < N) :
   Calls Tryz.prog 101 #[.agg #[.slice A1 N c1, .slice A2 n2 c2, .int .i64 mN, .int .i64 (F : Nat), .slice A3 n3 c3, .slice A4 n4 c4, .int .i64 (F : Nat), .slice (some ⟨r, 0, none⟩) N c, .slice AL nL cL, .bool u], .int .i64 k] w (Turns N F X bs r w (returnedX p k n2 (T, false))) := by
 obtain rfl : n2 = n3 := hP.n32.symm
 obtain ⟨be, oe, rfl, hle, hce⟩ := hP.ed.2 (by omega)
 obtain ⟨bnn, on, rfl, hln, hcn⟩ := hP.nd.2 hN1
 obtain ⟨bf, of_, rfl, hlf, hcf⟩ := hP.fl.2 (by omega)
 have HCE := Lib.hid hce
 have HCN := Lib.hid hcn
 have HCF := Lib.hid hcf
 have HP := Lib.hid hP
 have HX := Lib.hid hX
 have HE := Lib.hid hE
 have HN0 := Lib.hid hP.nd
 have hN8 := hP.N8
 have hF8 := hP.F8
 have hE8 : n2 ≤ 32768 := by have := (sup_parts hP.ok.sup).2.1; have := hP.ed.1; omega
 have HES := Lib.hid hP.ed.1
 have HXlt := Lib.hid hT.lt
 have HT := Lib.hid hT
 have HFN := Lib.hid hP.Fn
 have hszw := hb0.size
 obtain ⟨ra, rb, rk, rc, en, hra, hrb, -, -⟩ := hP.edge hk
 have HEN := Lib.hid en
 clear hP hX hE hT hce hcn hcf en
 go_enter Tryz.func101, Tryz.ntmps101
 go_upto_region 1 with fail
 refine wp_named (fun W => ∃ b0, w.heap.size = b0 ∧ Blk W b0 [.slice (some ⟨bnn, on, none⟩) N c1, .slice (some ⟨be, oe, none⟩) n2 c2, .int .i64 mN, .int .i64 (F : Nat), .slice (some ⟨bf, of_, none⟩) n2 c3, .slice A4 n4 c4, .int .i64 (F : Nat), .slice (some ⟨r, 0, none⟩) N c, .slice AL nL cL, .bool u] ∧ Below w.heap.size w W) ⟨_, rfl, ?_, ?_⟩ ?_
 · exact kbn
 · go_grown
 rintro W ⟨b0, e0, B0, hB⟩
 rw [e0]
 have G0 : w.heap.size ≤ b0 := by omega
 clear e0
 have ⟨L0, C0, F0⟩ := B0
 have hX0 : b0 ∉ X := fun h => by have := HXlt.out _ h; omega
 have HXW : Hid (∀ y, W.heap.size ≤ y → y ∉ X) := fun y hy h => by have := HXlt.out _ h; have := hB.size; omega
 have HBW : Hid (Below w0.heap.size w0 W) := Lib.hid (hb0.trans (hB.mono hszw))
 have hleW : be < W.heap.size := Nat.lt_of_lt_of_le hle HBW.out.size
 have e1 := (HBW.out.cell (p := ⟨be, _, none⟩) hle).trans (HCE.out k hk).1
 have e2 := (HBW.out.cell (p := ⟨be, _, none⟩) hle).trans (HCE.out k hk).2.1
 have e3 := (HBW.out.cell (p := ⟨be, _, none⟩) hle).trans (HCE.out k hk).2.2.1
 have e4 := (HBW.out.cell (p := ⟨be, _, none⟩) hle).trans (HCE.out k hk).2.2.2
 rw [HEN.out] at e1 e2 e3 e4
 have hk9 : (k : Int) < (n2 : Int) := by omega
 go_upto_region 4 with fail
 refine wp_named (fun V => ∃ bp br, W.heap.size = bp ∧ W.heap.size + 1 = br ∧ Blk V bp [.slice (some ⟨bnn, on, none⟩) N c1, .slice (some ⟨be, oe, none⟩) n2 c2, .int .i64 mN, .int .i64 (F : Nat), .slice (some ⟨bf, of_, none⟩) n2 c3, .slice A4 n4 c4] ∧ Blk V br [.int .i64 ra, .int .i64 rb, .int .i64 rk, .int .i64 rc] ∧ Kept [] W V) ⟨_, _, rfl, rfl, (Blk.new _ _ _ _ rfl).alloc _, Blk.new _ _ _ _ (by simp), ((Kept.refl _ _).alloc _).alloc _⟩ ?_
 rintro V ⟨bp, br, ep, er, Bp, Br, hkV⟩
 rw [er, ep]
 have hXp : bp ∉ X := HXW.out bp (by omega)
 have hXr : br ∉ X := HXW.out br (by omega)
 have hszV := hkV.size
 have HXV : Hid (∀ y, V.heap.size ≤ y → y ∉ X) := Lib.hid (fun y hy => HXW.out y (by omega))
 have HBV : Hid (Below w0.heap.size w0 V) := Lib.hid (HBW.out.trans (hkV.toBelow.mono HBW.out.size))
 have HwV : Hid (Kept [] w V) := Lib.hid (((Kept.refl [] w).call hB).next hkV (by simp))
 have TV := Lib.hid (HT.out.kept0 HwV.out)
 have B0V := hkV.blk (by simp) B0
 have ⟨L0V, C0V, F0V⟩ := B0V
 have BpV := Bp
 have BrV := Br
 have ⟨LpV, CpV, FpV⟩ := BpV
 have ⟨LrV, CrV, FrV⟩ := BrV
 obtain ⟨Ak, nk, ck9, fk1, -, fk3⟩ := HCF.out k hk
 have HK1 := Lib.hid fk1
 have HKP := Lib.hid fk3
 have HKL := Lib.hid fk3.1
 have hnk : nk ≤ 8192 := by have := (HP.out.ok.fl k (by rw [HP.out.fl.1]; exact hk)).1; have := fk3.1; omega
 clear C0 F0 e1 e2 e3 e4 ep er fk1 fk3 Bp Br
 go_wp2_with fail
 go_loopw [6, 8] (fun s6 s8 wr => ∃ (i : Nat) (m : Bool) (Ti : Nat → Nat → Nat → Bool), i ≤ n2 ∧ s8 = .int .i64 i ∧ s6 = .bool m ∧ Kept X V wr ∧ Hid (TabM N F X bs r wr Ti) ∧ Hid (returnedX p k i (T, false) = (Ti, m))) (fun _ s8 _ => n2 - (intOf s8).toNat)
 case atStart => exact ⟨0, false, T, Nat.zero_le _, rfl, rfl, Kept.refl _ _, TV, Lib.hid rfl⟩
 case round =>
 clear C0V F0V CpV FpV CrV FrV
 obtain ⟨i, m0, Ti, hi, rfl, rfl, hkr, TR, HSI⟩ := hrel
 have B0W := hkr.blk hX0 B0V
 have ⟨L0W, C0W, F0W⟩ := B0W
 have BpW := hkr.blk hXp BpV
 have ⟨LpW, CpW, FpW⟩ := BpW
 have BrW := hkr.blk hXr BrV
 have ⟨LrW, CrW, FrW⟩ := BrW
 have hBr : Below w0.heap.size w0 wr := Kept.below HBV.out HBV.out.size HX.out hkr
 have hler : be < wr.heap.size := Nat.lt_of_lt_of_le hle hBr.size
 by_cases hlt : i < n2
 case neg =>
   obtain rfl : i = n2 := by omega
   go_wp2_with fail
   go_ret
   refine ⟨by rw [HSI.out]; rfl, (keptWide HwV.out (by simp)).next hkr (fun y hy => .inl hy), ?_⟩
   rw [HSI.out]
   exact TR.out
 have hi9 : (i : Int) < (n2 : Int) := by omega
 obtain ⟨ca, cb, ck, cc, eni, hca, hcb, -, -⟩ := HP.out.edge hlt
 have HEI := Lib.hid eni
 have e1 := (hBr.cell (p := ⟨be, _, none⟩) hle).trans (HCE.out i hlt).1
 have e2 := (hBr.cell (p := ⟨be, _, none⟩) hle).trans (HCE.out i hlt).2.1
 have e3 := (hBr.cell (p := ⟨be, _, none⟩) hle).trans (HCE.out i hlt).2.2.1
 have e4 := (hBr.cell (p := ⟨be, _, none⟩) hle).trans (HCE.out i hlt).2.2.2
 rw [eni] at e1 e2 e3 e4
 clear eni
 go_upto_region 8 with fail
 refine wp_named (fun U => ∃ g, wr.heap.size = g ∧ Blk U g [.int .i64 ca, .int .i64 cb, .int .i64 ck, .int .i64 cc] ∧ Kept [] wr U) ⟨_, rfl, Blk.new _ _ _ _ rfl, (Kept.refl _ _).alloc _⟩ ?_
 rintro U ⟨bc, ec, Bc, hkU⟩
 rw [ec]
 have hXc : bc ∉ X := HXV.out bc (by have := hkr.size; omega)
 have BcU := Bc
 have ⟨LcU, CcU, FcU⟩ := BcU
 clear C0W F0W CpW FpW CrW FrW e1 e2 e3 e4 ec Bc
 have B0U := hkU.blk (by simp) B0W
 have ⟨L0U, C0U, F0U⟩ := B0U
 have BpU := hkU.blk (by simp) BpW
 have ⟨LpU, CpU, FpU⟩ := BpU
 have BrU := hkU.blk (by simp) BrW
 have ⟨LrU, CrU, FrU⟩ := BrU
 have hBU : Below w0.heap.size w0 U := hBr.trans (hkU.toBelow.mono hBr.size)
 have hlnU : bnn < U.heap.size := Nat.lt_of_lt_of_le hln hBU.size
 obtain ⟨nfc, hnfc⟩ : ∃ x, (gn p.ns cb).f = x := ⟨_, rfl⟩
 obtain ⟨nfr, hnfr⟩ : ∃ x, (gn p.ns ra).f = x := ⟨_, rfl⟩
 have f1 := (hBU.cell (p := ⟨bnn, _, none⟩) hln).trans (HCN.out cb hcb).1
 have f2 := (hBU.cell (p := ⟨bnn, _, none⟩) hln).trans (HCN.out ra hra).1
 rw [hnfc] at f1
 rw [hnfr] at f2
 have HNC := Lib.hid hnfc
 have HNR := Lib.hid hnfr
 have hkVU : Kept X V U := hkr.next hkU (by simp)
 have TU := Lib.hid (TR.out.kept0 hkU)
 have hcb9 : (cb : Int) < (N : Int) := by omega
 have hra9 : (ra : Int) < (N : Int) := by omega
 have HST : Hid (returnedX p k (i + 1) (T, false) = if retC p.toPb k i then retJX p k i (gf p.fl i).length (Ti, m0) else (Ti, m0)) := by
   show _ = _
   have h9 := HSI.out
   unfold returnedX at h9 ⊢
   rw [If.up, h9]
 have HRC : Hid (retC p.toPb k i ↔ ck = 2 ∧ (ca : Int) = rc ∧ nfc = nfr) := by
   show _ ↔ _
   unfold retC
   rw [HEI.out, HEN.out, ← HNC.out, ← HNR.out]
   rfl
 clear hnfc hnfr
 by_cases k1 : ck = 2
 case neg =>
   have z1 : (ck != 2) = true := by simpa using k1
   have HE : Hid (returnedX p k (i + 1) (T, false) = (Ti, m0)) := Lib.hid (HST.out.trans (if_neg (fun h => k1 (HRC.out.1 h).1)))
   clear k1
   go_quiet (fail)
   go_wp2_with fail
   exact ⟨⟨i + 1, m0, Ti, by omega, by go_num, rfl, hkVU.drewN _, Lib.hid (TU.out.kept0 ((Kept.refl [] U).drewN _)), HE⟩, by simp [intOf]; omega⟩
 by_cases k2 : (ca : Int) = rc
 case neg =>
   have z0 : (ck != 2) = false := by simpa using k1
   have z1 : ((ca : Int) != rc) = true := by simpa using k2
   have HE : Hid (returnedX p k (i + 1) (T, false) = (Ti, m0)) := Lib.hid (HST.out.trans (if_neg (fun h => k2 (HRC.out.1 h).2.1)))
   clear k2
   go_quiet (fail)
   go_wp2_with fail
   exact ⟨⟨i + 1, m0, Ti, by omega, by go_num, rfl, hkVU.drewN _, Lib.hid (TU.out.kept0 ((Kept.refl [] U).drewN _)), HE⟩, by simp [intOf]; omega⟩
 by_cases k3 : nfc = nfr
 case neg =>
   have z0 : (ck != 2) = false := by simpa using k1
   have z2 : ((ca : Int) != rc) = false := by simpa using k2
   have z1 : (nfc != nfr) = true := by simpa using k3
   have HE : Hid (returnedX p k (i + 1) (T, false) = (Ti, m0)) := Lib.hid (HST.out.trans (if_neg (fun h => k3 (HRC.out.1 h).2.2)))
   clear k3
   go_quiet (fail)
   go_wp2_with fail
   exact ⟨⟨i + 1, m0, Ti, by omega, by go_num, rfl, hkVU.drewN _, Lib.hid (TU.out.kept0 ((Kept.refl [] U).drewN _)), HE⟩, by simp [intOf]; omega⟩
 have HS2 : Hid (returnedX p k (i + 1) (T, false) = retJX p k i (gf p.fl i).length (Ti, m0)) := Lib.hid (HST.out.trans (if_pos (HRC.out.2 ⟨k1, k2, k3⟩)))
 go_cut [64] (fun s wx => s = .bool false ∧ Kept [] U wx)
 case first =>
   have z0 : (ck != 2) = false := by simpa using k1
   have z2 : ((ca : Int) != rc) = false := by simpa using k2
   have z3 : (nfc != nfr) = false := by simpa using k3
   clear k1 k2 k3
   go_quiet (fail)
   go_wp2_with fail
   go_meet
   exact ⟨rfl, (Kept.refl [] U).drewN _⟩
 case rest =>
 obtain ⟨rfl, hkc⟩ := hcut
 clear C0U F0U CpU FpU CrU FrU CcU FcU f1 f2 k1 k2 k3
 have hkVc : Kept X V wc := hkVU.next hkc (by simp)
 have HBC : Hid (Below w0.heap.size w0 wc) := Lib.hid (hBU.trans (hkc.toBelow.mono hBU.size))
 have TC := Lib.hid (TU.out.kept0 hkc)
 have B0C := hkc.blk (by simp) B0U
 have ⟨L0C, C0C, F0C⟩ := B0C
 have BpC := hkc.blk (by simp) BpU
 have ⟨LpC, CpC, FpC⟩ := BpC
 have BrC := hkc.blk (by simp) BrU
 have ⟨LrC, CrC, FrC⟩ := BrC
 have BcC := hkc.blk (by simp) BcU
 have ⟨LcC, CcC, FcC⟩ := BcC
 obtain ⟨Ai, ni, ci, fi1, -, fi3⟩ := HCF.out i hlt
 have HI1 := Lib.hid fi1
 have HIP := Lib.hid fi3
 have HIL := Lib.hid fi3.1
 have hni : ni ≤ 8192 := by have := (HP.out.ok.fl i (by rw [HP.out.fl.1]; exact hlt)).1; have := fi3.1; omega
 have HXC : Hid (∀ y, wc.heap.size ≤ y → y ∉ X) := Lib.hid (fun y hy => HXV.out y (by have := hkVc.size; omega))
 clear fi1 fi3
 go_wp2_with fail
 go_loopw [6, 10] (fun s6 s10 wq => ∃ (j : Nat) (m : Bool) (Tj : Nat → Nat → Nat → Bool), j ≤ ni ∧ s10 = .int .i64 j ∧ s6 = .bool m ∧ Kept X wc wq ∧ Hid (TabM N F X bs r wq Tj) ∧ Hid (retJX p k i j (Ti, m0) = (Tj, m))) (fun _ s10 _ => ni - (intOf s10).toNat)
 case atStart => exact ⟨0, m0, Ti, Nat.zero_le _, rfl, rfl, Kept.refl _ _, TC, Lib.hid rfl⟩
 case round =>
 rename World => wq
 clear C0C F0C CpC FpC CrC FrC CcC FcC
 obtain ⟨j, m1, Tj, hj, rfl, rfl, hkq, TQ, HSJ⟩ := hrel
 have B0Q := hkq.blk hX0 B0C
 have ⟨L0Q, C0Q, F0Q⟩ := B0Q
 have BpQ := hkq.blk hXp BpC
 have ⟨LpQ, CpQ, FpQ⟩ := BpQ
 have BrQ := hkq.blk hXr BrC
 have ⟨LrQ, CrQ, FrQ⟩ := BrQ
 have BcQ := hkq.blk hXc BcC
 have ⟨LcQ, CcQ, FcQ⟩ := BcQ
 have hBq : Below w0.heap.size w0 wq := Kept.below HBC.out HBC.out.size HX.out hkq
 have lfq : bf < wq.heap.size := Nat.lt_of_lt_of_le hlf hBq.size
 have fiq := (hBq.cell (p := ⟨bf, _, none⟩) hlf).trans HI1.out
 by_cases hltj : j < ni
 case neg =>
   obtain rfl : j = ni := by omega
   have HE : Hid (returnedX p k (i + 1) (T, false) = (Tj, m1)) := Lib.hid (by rw [HS2.out, HIL.out, HSJ.out])
   go_wp2_with fail
   exact ⟨⟨i + 1, m1, Tj, by omega, by go_num, rfl, hkVc.next hkq (fun y hy => .inl hy), TQ, HE⟩, by simp [intOf]; omega⟩
 obtain ⟨qb, qo0, rfl, hlq, hcq⟩ := (HIP.out.later hBq).2 (by omega)
 obtain ⟨h1, h2⟩ := hcq j hltj
 obtain ⟨qi, qo, eqj, hqi, hqo⟩ := HP.out.pair (k := i) (i := j) hlt (by rw [HIL.out]; exact hltj)
 rw [eqj] at h1 h2
 have HEQ := Lib.hid eqj
 have hj9 : (j : Int) < (ni : Int) := by omega
 clear hcq eqj
 go_upto_region 13 with fail
 refine wp_named (fun Y => ∃ g, wq.heap.size = g ∧ Blk Y g [.int .i64 qi, .int .i64 qo] ∧ Kept [] wq Y) ⟨_, rfl, Blk.new _ _ _ _ rfl, (Kept.refl _ _).alloc _⟩ ?_
 rintro Y ⟨bq, eq_, Bq, hkY⟩
 rw [eq_]
 have hXq : bq ∉ X := HXC.out bq (by have := hkq.size; omega)
 have BqY := Bq
 have ⟨LqY, CqY, FqY⟩ := BqY
 clear C0Q F0Q CpQ FpQ CrQ FrQ CcQ FcQ h1 h2 eq_ Bq fiq
 have B0Y := hkY.blk (by simp) B0Q
 have ⟨L0Y, C0Y, F0Y⟩ := B0Y
 have BpY := hkY.blk (by simp) BpQ
 have ⟨LpY, CpY, FpY⟩ := BpY
 have BrY := hkY.blk (by simp) BrQ
 have ⟨LrY, CrY, FrY⟩ := BrY
 have BcY := hkY.blk (by simp) BcQ
 have ⟨LcY, CcY, FcY⟩ := BcY
 have HBY : Hid (Below w0.heap.size w0 Y) := Lib.hid (hBq.trans (hkY.toBelow.mono hBq.size))
 have TY := Lib.hid (TQ.out.kept0 hkY)
 have hkcY : Kept X wc Y := hkq.next hkY (by simp)
 have HXY : Hid (∀ y, Y.heap.size ≤ y → y ∉ X) := Lib.hid (fun y hy => HXC.out y (by have := hkcY.size; omega))
 go_wp2_with fail
 go_loopw [6, 12] (fun s6 s12 wz => ∃ (mm : Nat) (m : Bool) (Tm : Nat → Nat → Nat → Bool), mm ≤ nk ∧ s12 = .int .i64 mm ∧ s6 = .bool m ∧ Kept X Y wz ∧ Hid (TabM N F X bs r wz Tm) ∧ Hid (retMX p k i j mm (Tj, m1) = (Tm, m))) (fun _ s12 _ => nk - (intOf s12).toNat)
 case atStart => exact ⟨0, m1, Tj, Nat.zero_le _, rfl, rfl, Kept.refl _ _, TY, Lib.hid rfl⟩
 case round =>
 rename World => wz
 clear C0Y F0Y CpY FpY CrY FrY CcY FcY CqY FqY
 obtain ⟨mm, m2, Tm, hmm, rfl, rfl, hkz, TZ0, HSM⟩ := hrel
 have B0Z := hkz.blk hX0 B0Y
 have ⟨L0Z, C0Z, F0Z⟩ := B0Z
 have BpZ := hkz.blk hXp BpY
 have ⟨LpZ, CpZ, FpZ⟩ := BpZ
 have BrZ := hkz.blk hXr BrY
 have ⟨LrZ, CrZ, FrZ⟩ := BrZ
 have BcZ := hkz.blk hXc BcY
 have ⟨LcZ, CcZ, FcZ⟩ := BcZ
 have BqZ := hkz.blk hXq BqY
 have ⟨LqZ, CqZ, FqZ⟩ := BqZ
 have hBz : Below w0.heap.size w0 wz := Kept.below HBY.out HBY.out.size HX.out hkz
 have lfz : bf < wz.heap.size := Nat.lt_of_lt_of_le hlf hBz.size
 have fkz := (hBz.cell (p := ⟨bf, _, none⟩) hlf).trans HK1.out
 have hkcz : Kept X wc wz := hkcY.next hkz (fun y hy => .inl hy)
 by_cases hltm : mm < nk
 case neg =>
   obtain rfl : mm = nk := by omega
   have HE : Hid (retJX p k i (j + 1) (Ti, m0) = (Tm, m2)) := by
     show _ = _
     have h9 := HSJ.out
     have h8 := HSM.out
     unfold retJX at h9 ⊢
     rw [If.up, h9, HKL.out, h8]
   go_wp2_with fail
   exact ⟨⟨j + 1, m2, Tm, by omega, by go_num, rfl, hkcz, TZ0, HE⟩, by simp [intOf]; omega⟩
 obtain ⟨sb, so0, rfl, hls, hcs⟩ := (HKP.out.later hBz).2 (by omega)
 obtain ⟨h1, h2⟩ := hcs mm hltm
 obtain ⟨si, so, esm, hsi, hso⟩ := HP.out.pair (k := k) (i := mm) hk (by rw [HKL.out]; exact hltm)
 rw [esm] at h1 h2
 have HES2 := Lib.hid esm
 have hm9 : (mm : Int) < (nk : Int) := by omega
 clear hcs esm
 go_upto_region 17 with fail
 refine wp_named (fun S => ∃ g, wz.heap.size = g ∧ Blk S g [.int .i64 si, .int .i64 so] ∧ Kept [] wz S) ⟨_, rfl, Blk.new _ _ _ _ rfl, (Kept.refl _ _).alloc _⟩ ?_
 rintro S ⟨bs9, es9, Bs9, hkS⟩
 rw [es9]
 have BsS := Bs9
 have ⟨LsS, CsS, FsS⟩ := BsS
 clear C0Z F0Z CpZ FpZ CrZ FrZ CcZ FcZ CqZ FqZ h1 h2 es9 Bs9 fkz
 have B0S := hkS.blk (by simp) B0Z
 have ⟨L0S, C0S, F0S⟩ := B0S
 have BpS := hkS.blk (by simp) BpZ
 have ⟨LpS, CpS, FpS⟩ := BpS
 have BrS := hkS.blk (by simp) BrZ
 have ⟨LrS, CrS, FrS⟩ := BrS
 have BcS := hkS.blk (by simp) BcZ
 have ⟨LcS, CcS, FcS⟩ := BcS
 have BqS := hkS.blk (by simp) BqZ
 have ⟨LqS, CqS, FqS⟩ := BqS
 have hBS : Below w0.heap.size w0 S := hBz.trans (hkS.toBelow.mono hBz.size)
 have TS := Lib.hid (TZ0.out.kept0 hkS)
 have hkYS : Kept X Y S := hkz.next hkS (by simp)
 have HS9 : Hid (retMX p k i j (mm + 1) (Tj, m1) = if doesX p Tm ra qo si then throughT ca rb qi so F (Tm, m2) else (Tm, m2)) := by
   show _ = _
   have h9 := HSM.out
   unfold retMX at h9 ⊢
   rw [If.up, h9, HEN.out, HEI.out, HEQ.out, HES2.out, HFN.out]
   rfl
 by_cases hv1 : doesX p Tm ra qo si
 case neg =>
   have HV1 : Hid (false = true ↔ doesX p Tm ra qo si) := Lib.hid ⟨fun h => (by cases h), fun h => absurd h hv1⟩
   have HE9 : Hid (retMX p k i j (mm + 1) (Tj, m1) = (Tm, m2)) := Lib.hid (HS9.out.trans (if_neg hv1))
   clear hv1
   go_wp2_with (go_at_call 139; refine (rdoesX_is c1 c2 c3 c4 c cL qo ra si false _ HE.out HN0.out hBS TS.out hN8 hF8 hra hqo hsi HV1.out).mono ?_; rintro e w3 ⟨rfl, hb3⟩; have ⟨hc3, hf3, hg3⟩ := bcell hb3)
   exact ⟨⟨mm + 1, m2, Tm, by omega, by go_num, rfl, hkYS.call hb3, Lib.hid (TS.out.later hb3), HE9⟩, by simp [intOf]; omega⟩
 case pos =>
   have HV1 : Hid (true = true ↔ doesX p Tm ra qo si) := Lib.hid ⟨fun _ => hv1, fun _ => rfl⟩
   obtain ⟨T9, b9, h9⟩ : ∃ T9 b9, throughT ca rb qi so F (Tm, false) = (T9, b9) := ⟨_, _, rfl⟩
   have HE9 : Hid (retMX p k i j (mm + 1) (Tj, m1) = (T9, m2 || b9)) := Lib.hid (by rw [HS9.out, if_pos hv1, through_lin ca rb qi so F Tm m2, h9])
   have H9 := Lib.hid h9
   clear hv1 h9
   cases b9 with
   | false =>
     go_wp2_with (first
       | (go_at_call 139; refine (rdoesX_is c1 c2 c3 c4 c cL qo ra si true _ HE.out HN0.out hBS TS.out hN8 hF8 hra hqo hsi HV1.out).mono ?_; rintro e w3 ⟨rfl, hb3⟩; have ⟨hc3, hf3, hg3⟩ := bcell hb3)
       | (go_at_call 140; refine (rthrough_any ca rb qi so c1 c2 c3 c4 c _ HP.out (hBS.trans (hb3.mono hBS.size)) HX.out (TS.out.later hb3) hca hrb hqi hso).mono ?_; rw [H9.out]; rintro e w4 ⟨rfl, hk4, ht4⟩))
     exact ⟨⟨mm + 1, m2, T9, by omega, by go_num, rfl, (hkYS.call hb3).next hk4 (fun y hy => .inl hy), Lib.hid ht4, Lib.hid (by rw [HE9.out, Bool.or_false])⟩, by simp [intOf]; omega⟩
   | true =>
     go_wp2_with (first
       | (go_at_call 139; refine (rdoesX_is c1 c2 c3 c4 c cL qo ra si true _ HE.out HN0.out hBS TS.out hN8 hF8 hra hqo hsi HV1.out).mono ?_; rintro e w3 ⟨rfl, hb3⟩; have ⟨hc3, hf3, hg3⟩ := bcell hb3)
       | (go_at_call 140; refine (rthrough_any ca rb qi so c1 c2 c3 c4 c _ HP.out (hBS.trans (hb3.mono hBS.size)) HX.out (TS.out.later hb3) hca hrb hqi hso).mono ?_; rw [H9.out]; rintro e w4 ⟨rfl, hk4, ht4⟩))
     exact ⟨⟨mm + 1, true, T9, by omega, by go_num, rfl, (hkYS.call hb3).next hk4 (fun y hy => .inl hy), Lib.hid ht4, Lib.hid (by rw [HE9.out, Bool.or_true])⟩, by simp [intOf]; omega⟩
end Go.Proofs.YtooejoajojanjaaGreatDoor
namespace Go.Df
open Go.RowKit
namespace If
def EmR (base : Nat) (tb : TypeId) (m : Nat) (bs : Nat → Nat) (n : Nat) (w : World) : Prop :=
 (∀ x, x < n → base ≤ bs x ∧ Tag w (bs x) tb ∧ ∀ i, i < m → w.cell? ⟨bs x, i, none⟩ = some (.bool false)) ∧ ∀ x y, x < n → y < n → bs x = bs y → x = y
theorem EmR.kept {base : Nat} {tb : TypeId} {m n : Nat} {bs : Nat → Nat} {X : List Nat} {w w' : World} (h : EmR base tb m bs n w) (hk : Kept X w w') (hX : ∀ x, x < n → bs x ∉ X) : EmR base tb m bs n w' :=
 ⟨fun x hx => by
   obtain ⟨h1, h2, h3⟩ := h.1 x hx
   exact ⟨h1, h2.same (hk.block _ h2.lt (hX x hx)), fun i hi => (hk.cell _ _ h2.lt (hX x hx)).trans (h3 i hi)⟩, h.2⟩
def updN (f : Nat → Nat) (n x : Nat) : Nat → Nat := fun i => if i = n then x else f i
theorem EmR.snoc {base : Nat} {tb : TypeId} {m n g : Nat} {bs : Nat → Nat} {w : World} (h : EmR base tb m bs n w) (hg : base ≤ g) (ht : Tag w g tb) (hc : ∀ i, i < m → w.cell? ⟨g, i, none⟩ = some (.bool false)) (hn : ∀ x, x < n → bs x ≠ g) : EmR base tb m (updN bs n g) (n + 1) w := by
 refine ⟨fun x hx => ?_, fun x y hx hy e => ?_⟩
 · unfold updN
   by_cases e : x = n
   · rw [if_pos e]; exact ⟨hg, ht, hc⟩
   · rw [if_neg e]; exact h.1 x (by omega)
 · unfold updN at e
   by_cases e1 : x = n
   · by_cases e2 : y = n
     · omega
     · rw [if_pos e1, if_neg e2] at e; exact absurd e.symm (hn y (by omega))
   · by_cases e2 : y = n
     · rw [if_neg e1, if_pos e2] at e; exact absurd e (hn x (by omega))
     · rw [if_neg e1, if_neg e2] at e; exact h.2 x y (by omega) (by omega) e
theorem rows_snoc (bs rc : Nat → Nat) (m n g c : Nat) : ((List.range n).map fun x => Value.slice (some ⟨bs x, 0, none⟩) m (rc x)) ++ [Value.slice (some ⟨g, 0, none⟩) m c] = (List.range (n + 1)).map fun x => Value.slice (some ⟨updN bs n g x, 0, none⟩) m (updN rc n c x) := by
 rw [List.range_succ, List.map_append]
 congr 1
 · refine List.map_congr_left fun x hx => ?_
   have : x ≠ n := by have := List.mem_range.1 hx; omega
   simp [updN, this]
 · simp [updN]
theorem rep_snoc (v : Value) (j : Nat) : List.replicate j v ++ [v] = List.replicate (j + 1) v := List.replicate_succ'.symm
end If
end Go.Df
namespace Go.Proofs.YtooejoajojanjaaGreatDoor
open Go.RowKit Go.Df Go.Df.If
attribute [local go_sem ↓] Go.wp_at_zero Go.wp_at_succ
theorem rowb_info : (Tryz.prog.info? 51).map (fun i => (i.zero, i.size, i.bytes)) = some (some (.slice none 0 0), 1, 24) := by kernel_rfl
set_option maxRecDepth 100000 in
set_option maxHeartbeats 8000000 in
theorem rempty_any (A1 A2 A3 A4 : Option Addr) (N c1 n2 c2 n3 c3 n4 c4 : Nat) (mn : Int) (F : Nat) (w : World) (hN1 : 0 < N) (hN8 : N ≤ 8192) (hF1 : 0 < F) (hF8 : F ≤ 1024) :
   Calls Tryz.prog 54 #[.agg #[.slice A1 N c1, .slice A2 n2 c2, .int .i64 mn, .int .i64 (F : Nat), .slice A3 n3 c3, .slice A4 n4 c4]] w fun e w' => ∃ X bs r c, e = .returned (tabV N F r c) ∧ TabM N F X bs r w' (fun _ _ _ => false) ∧ (∀ x ∈ X, w.heap.size ≤ x) ∧ w.heap.size ≤ r ∧ Below w.heap.size w w' := by
 obtain ⟨i0, hi, hz0, hz1, hz2⟩ := info_parts booli_info
 obtain ⟨i1, hj, hy0, hy1, hy2⟩ := info_parts rowb_info
 have hm1 : F * F ≤ 1024 * 1024 := Nat.mul_le_mul hF8 hF8
 have hm0 : 0 < F * F := Nat.mul_pos hF1 hF1
 obtain ⟨m, hm⟩ : ∃ m, F * F = m := ⟨_, rfl⟩
 have hmul : (F : Int) * (F : Int) = (m : Int) := by rw [← hm]; simp
 rw [hm] at hm1 hm0
 have HM := Lib.hid hm
 have x1 : IntKind.i64.wrap ((F : Int) * (F : Int)) = (m : Int) := by rw [hmul]; exact IntWalk.i64_in _ (by omega)
 clear hm hmul
 go_enter Tryz.func54, Tryz.ntmps54
 go_upto_region 1 with fail
 refine wp_named (fun W => ∃ b0 b1, w.heap.size = b0 ∧ w.heap.size + 1 = b1 ∧ Blk W b0 [.slice A1 N c1, .slice A2 n2 c2, .int .i64 mn, .int .i64 (F : Nat), .slice A3 n3 c3, .slice A4 n4 c4] ∧ Blk W b1 [.int .i64 0, .slice none 0 0] ∧ Below w.heap.size w W) ⟨_, _, rfl, rfl, ?_, ?_, ?_⟩ ?_
 · exact (Blk.new _ _ _ _ (by first | rfl | simp)).alloc _
 · exact kbn
 · go_grown
 rintro W ⟨b0, b1, e0, e1, B0, B1, hB⟩
 rw [e1, e0]
 have G0 : w.heap.size ≤ b0 := by omega
 have n01 : b0 ≠ b1 := by omega
 have G1 : w.heap.size ≤ b1 := by omega
 have n10 : b1 ≠ b0 := by omega
 clear e0 e1
 have ⟨L0, C0, F0⟩ := B0
 have ⟨L1, C1, F1⟩ := B1
 go_upto_region 3 with fail
 refine wp_named (fun V => ∃ g, W.heap.size = g ∧ Blk V g [.int .i64 (F : Nat), .slice none 0 0] ∧ Kept [] W V) ⟨_, rfl, Blk.new _ _ _ _ rfl, (Kept.refl _ _).alloc _⟩ ?_
 rintro V ⟨g, eg, Bg, hkV⟩
 rw [eg]
 have hgV : g < V.heap.size := Bg.1
 have hb0g : b0 ≠ g := by omega
 have hb1g : b1 ≠ g := by omega
 have hgw : w.heap.size ≤ g := by have := hB.size; omega
 have B0V := hkV.blk (by simp) B0
 have B1V := hkV.blk (by simp) B1
 have hwV : Kept [] w V := ((Kept.refl [] w).call hB).next hkV (by simp)
 have HBg := Lib.hid Bg
 have ⟨L0V, C0V, F0V⟩ := B0V
 clear C0 F0 C1 F1 eg Bg
 go_wp2_with fail
 go_loopw [4] (fun s4 wr => ∃ (n : Nat) (A : Option Addr) (cA : Nat) (bs rc : Nat → Nat), n ≤ N ∧ s4 = .int .i64 n ∧ Kept [g] V wr ∧ Hid (Blk wr g [.int .i64 (F : Nat), .slice A n cA]) ∧ Hid (wr.ownsRow V.heap.size 51 1 (.slice A n cA) n ((List.range n).map fun x => Value.slice (some ⟨bs x, 0, none⟩) m (rc x))) ∧ Hid (EmR V.heap.size 4 m bs n wr)) (fun s4 _ => N - (intOf s4).toNat)
 case atStart => exact ⟨0, none, 0, fun _ => 0, fun _ => 0, Nat.zero_le _, rfl, Kept.refl _ _, HBg, Lib.hid (World.ownsRow_nil _ _ _ _), Lib.hid ⟨fun x h => absurd h (by omega), fun x y h => absurd h (by omega)⟩⟩
 case round =>
 clear C0V F0V HBg
 obtain ⟨n, A, cA, bs, rc, hn, rfl, hkr, BG, own, EM⟩ := hrel
 have BR0 := hkr.blk (by simpa using hb0g) B0V
 have ⟨L0r, C0r, F0r⟩ := BR0
 have hsz := hkr.size
 by_cases hlt : n < N
 case neg =>
   obtain rfl : n = N := by omega
   have ⟨LGr, CGr, FGr⟩ := BG.out
   have BR1 := hkr.blk (by simpa using hb1g) B1V
   have ⟨L1r, C1r, F1r⟩ := BR1
   obtain ⟨r, cr, hv, hbr, hrl, -, -, hcell, -⟩ := own_cellsT own.out hN1
   have htr : Tag wr r 51 := own_tag own.out (by rw [hv]; rfl)
   injection hv with e1 e2 e3
   subst e1
   subst e3
   have HCL := Lib.hid hcell
   have HTR := Lib.hid htr
   clear hcell htr
   go_wp2_with fail
   refine retNamedT (fun Y => Blk Y b1 [.int .i64 (F : Nat), .slice (some ⟨r, 0, none⟩) n cA] ∧ Kept [b1] wr Y) ⟨(BR1.set 0 _).set 1 _, ((Kept.refl [b1] wr).set b1 0 _ (.inl (by simp))).set b1 1 _ (.inl (by simp))⟩ ?_
   rintro Y ⟨BY, hkY⟩
   have ⟨LY, CY, FY⟩ := BY
   have hbsne : ∀ x, x < n → bs x ≠ b1 := fun x hx => by have h1 := (EM.out.1 x hx).1; have h2 := B1V.1; omega
   have EMY := EM.out.kept hkY (fun x hx => by simpa using hbsne x hx)
   have hrb1 : r ≠ b1 := by have h2 := B1V.1; omega
   have hwr : Kept [] w wr := kept_fresh hwV hkr (by simpa using hgw)
   refine bodyPost_ret (by simp [results, Tryz.results54, go_sem, CY]; try rfl) rfl ?_
   refine ⟨(List.range n).map bs, bs, r, ⟨cA, rfl⟩, ?_, fun x hx => ?_, by have h2 := hwV.size; omega, (kept_fresh hwr hkY (by simpa using G1)).toBelow⟩
   · refine ⟨Nat.lt_of_lt_of_le hrl hkY.size, fun h => ?_, fun x hx => ?_, fun x hx => List.mem_map.2 ⟨x, List.mem_range.2 hx, rfl⟩, fun x hx => ?_, fun x a d hx ha hd => ?_, fun x i hx => ?_, EMY.2⟩
     · obtain ⟨x, hx, e⟩ := List.mem_map.1 h
       have h1 := (EM.out.1 x (List.mem_range.1 hx)).2.1
       exact absurd e (h1.ne HTR.out (by decide))
     · refine ⟨rc x, (hkY.cell r _ hrl (by simpa using hrb1)).trans ?_⟩
       rw [HCL.out x (by omega), HM.out]
       simp [hx]
     · obtain ⟨y, hy, rfl⟩ := List.mem_map.1 hx
       exact (EMY.1 y (List.mem_range.1 hy)).2.1.lt
     · exact (EMY.1 x hx).2.2 _ (by rw [← HM.out]; exact cell_lt ha hd)
     · exact (EMY.1 x hx).2.1.frozen i
   · obtain ⟨y, hy, rfl⟩ := List.mem_map.1 hx
     have h1 := (EM.out.1 y (List.mem_range.1 hy)).1
     have h2 := hwV.size
     omega
 have hn9 : (n : Int) < (N : Int) := by omega
 have HXA : Hid (∀ y ∈ (Value.slice A n cA).ownBlock.toList, V.heap.size ≤ y) := (fun y hy => own_ge own.out (by simpa using hy))
 have xg : g ∉ (Value.slice A n cA).ownBlock.toList := fun hm => by have := HXA.out g hm; omega
 go_wp2_with fail
 go_loopw [5, 6] (fun s5 s6 wq => ∃ (j : Nat) (A' : Option Addr) (c' : Nat), j ≤ m ∧ s5 = .slice A' j c' ∧ s6 = .int .i64 j ∧ Kept [] wr wq ∧ Hid (wq.ownsRow wr.heap.size 4 1 (.slice A' j c') j (List.replicate j (Value.bool false)))) (fun _ s6 _ => m - (intOf s6).toNat)
 case atStart => exact ⟨0, none, 0, Nat.zero_le _, rfl, rfl, Kept.refl _ _, Lib.hid (World.ownsRow_nil _ _ _ _)⟩
 case round =>
 rename World => wq
 clear C0r F0r
 obtain ⟨j, A', c', hj', rfl, rfl, hkq, ownq⟩ := hrel
 have ⟨L0q, C0q, F0q⟩ := hkq.blk (by simp) BR0
 have hsq := hkq.size
 by_cases hltj : j < m
 · have HAP := Lib.hid (rep_snoc (Value.bool false) j)
   have hj9 : (j : Int) < (m : Int) := by omega
   go_wp2_with (at_builtin; refine wpList_append_rd _ rfl _ _ 51 rfl wr.heap.size 4 i0 (.bool false) 1 1 Tryz.underlying51 hi hz0 hz1 hz2 rfl (by decide) (.slice A' j c') j (List.replicate j (Value.bool false)) rfl (own_keptT (X := []) ownq.out ((Kept.refl _ _).alloc _) (by simp)) (some ⟨wq.heap.size, 0, none⟩) 1 1 [.bool false] rfl (Rd.new1 _ _ _ _ rfl) (fun h => by cases h) (by intro u hu; simp at hu; subst hu; rfl) (j + 1) rfl (List.replicate (j + 1) (Value.bool false)) HAP.out (by unfold maxLen; omega) (by omega) (by simp; omega) ?_; intro A9 c9 w4 hown4 hk4 hat4; have HX : Hid (∀ y ∈ (Value.slice A' j c').ownBlock.toList, wr.heap.size ≤ y) := (fun y hy => own_ge ownq.out (by simpa using hy)); have hk5 := Lib.hid ((hkq.alloc (.cells #[.bool false] 4)).next hk4 (fun y hy => Or.inr (HX.out y hy))); have HO4 := Lib.hid hown4; clear hown4 hk4 hat4)
   exact ⟨⟨j + 1, A9, c9, by omega, rfl, by go_num, hk5.out, HO4⟩, by simp [intOf]; omega⟩
 obtain rfl : j = m := by omega
 obtain ⟨g', cr, hv, hbr, hgl, -, -, hcell, -⟩ := own_cellsT ownq.out hm0
 have htg : Tag wq g' 4 := own_tag ownq.out (by rw [hv]; rfl)
 injection hv with e1 e2 e3
 subst e1
 subst e3
 have HCL : Hid (∀ i, i < j → wq.cell? ⟨g', i, none⟩ = some (.bool false)) := Lib.hid (fun i hi => by rw [hcell i (by omega), List.getElem?_replicate, if_pos hi])
 have HTG := Lib.hid htg
 have OWQ := Lib.hid (own_keptT (X := []) own.out hkq (by simp))
 have ⟨LGq, CGq, FGq⟩ := hkq.blk (by simp) BG.out
 have BGq := Lib.hid (hkq.blk (by simp) BG.out)
 have EMq := Lib.hid (EM.out.kept hkq (by simp))
 have HAB := Lib.hid (rows_snoc bs rc j n g' c')
 have hgq : g < wq.heap.size := by omega
 clear hcell htg
 go_wp2_with (at_builtin; refine wpList_append_rd _ rfl _ _ 101 rfl V.heap.size 51 i1 (.slice none 0 0) 1 24 Tryz.underlying101 hj hy0 hy1 hy2 rfl (by decide) (.slice A n cA) n _ rfl (own_keptT (X := []) OWQ.out ((Kept.refl _ _).alloc _) (by simp)) (some ⟨wq.heap.size, 0, none⟩) 1 1 [.slice (some ⟨g', 0, none⟩) j c'] rfl (Rd.new1 _ _ _ _ rfl) (fun h => by cases h) (by intro u hu; simp at hu; subst hu; rfl) (n + 1) rfl _ HAB.out (by unfold maxLen; omega) (by omega) (by simp; omega) ?_; intro A9 c9 w4 hown4 hk4 hat4; have hkA : Kept (Value.slice A n cA).ownBlock.toList wq w4 := ((Kept.refl _ wq).alloc _).next hk4 (fun y hy => Or.inl hy); have ⟨LG4, CG4, FG4⟩ := hkA.blk xg BGq.out; have HO4 := Lib.hid hown4; have HKA := Lib.hid hkA; clear hown4 hk4 hat4)
 have hks : Kept [g] w4 (w4.setCell ⟨g, 1, none⟩ (.slice A9 (n + 1) c9)) := (Kept.refl [g] w4).set g 1 _ (.inl (by simp))
 have hbA : ∀ x, x < n + 1 → updN bs n g' x ∉ (Value.slice A n cA).ownBlock.toList := fun x hx hm => by
   have h1 : (Value.slice A n cA).ownBlock = some (updN bs n g' x) := by simpa using hm
   have h2 := own_tag OWQ.out h1
   unfold updN at h2
   by_cases e : x = n
   · rw [if_pos e] at h2; exact absurd rfl (HTG.out.ne h2 (by decide))
   · rw [if_neg e] at h2; exact absurd rfl ((EMq.out.1 x (by omega)).2.1.ne h2 (by decide))
 have EM2 := EMq.out.snoc (g := g') (by omega) HTG.out HCL.out (fun x hx e => by
   have h1 := (EM.out.1 x hx).2.1.lt
   omega)
 have EM3 := (EM2.kept HKA.out hbA).kept hks (fun x hx => by have h1 := (EM2.1 x hx).1; simp; omega)
 have OW3 := own_keptT HO4.out hks (fun y hy => by have := own_ge HO4.out hy; simp; omega)
 exact ⟨⟨n + 1, A9, c9, updN bs n g', updN rc n c', by omega, by go_num, ((hkr.next hkq (by simp)).next HKA.out (fun y hy => Or.inr (HXA.out y hy))).next hks (fun y hy => Or.inl hy), Lib.hid ((HKA.out.blk xg BGq.out).set 1 _), Lib.hid OW3, Lib.hid EM3⟩, by simp [intOf]; omega⟩
end Go.Proofs.YtooejoajojanjaaGreatDoor
