/- Closed facts of the translation that the rows' proofs share. -/
import Derived.Test.YtooejoajojanjaaGreatDoorXSf04
import Derived.Test.YtooejoajojanjaaGreatDoorRows
import Derived.Test.YtooejoajojanjaaGreatDoorXSf12
import Derived.Test.YtooejoajojanjaaGreatDoorXSf07
import Derived.Test.YtooejoajojanjaaGreatDoorXSf01
import Derived.Test.YtooejoajojanjaaGreatDoorXSf05
import Derived.Test.YtooejoajojanjaaGreatDoorXSf06
import Derived.Test.YtooejoajojanjaaGreatDoorXSf11
namespace Go.Proofs.YtooejoajojanjaaGreatDoor
open Go.RowKit
theorem Tryz.own : ownKnob Tryz.prog.godebug = none := by kernel_rfl
theorem Tryz.closed : (List.range Tryz.prog.types.size).all (Go.Df.closedB Tryz.prog Tryz.prog.types.size) = true := by kernel_rfl
end Go.Proofs.YtooejoajojanjaaGreatDoor
namespace Go.Df
open Go.RowKit
namespace If
open Sp
structure TabM (N F : Nat) (X : List Nat) (bs : Nat → Nat) (r : Nat) (w : World) (T : Nat → Nat → Nat → Bool) : Prop where
 rl : r < w.heap.size
 rX : r ∉ X
 row : ∀ n, n < N → ∃ c, w.cell? ⟨r, n, none⟩ = some (.slice (some ⟨bs n, 0, none⟩) (F * F) c)
 bX : ∀ n, n < N → bs n ∈ X
 lt : ∀ x ∈ X, x < w.heap.size
 cell : ∀ n a d, n < N → a < F → d < F → w.cell? ⟨bs n, a * F + d, none⟩ = some (.bool (T n a d))
 fr : ∀ n i, n < N → w.frozen? ⟨bs n, i, none⟩ = false
 inj : ∀ n n', n < N → n' < N → bs n = bs n' → n = n'
variable {N F : Nat} {X : List Nat} {bs : Nat → Nat} {r : Nat} {w w' : World} {T : Nat → Nat → Nat → Bool}
theorem TabM.kept {Y : List Nat} (h : TabM N F X bs r w T) (hk : Kept Y w w') (hr : r ∉ Y) (hX : ∀ x ∈ X, x ∉ Y) : TabM N F X bs r w' T where
 rl := Nat.lt_of_lt_of_le h.rl hk.size
 rX := h.rX
 row n hn := by
   obtain ⟨c, hc⟩ := h.row n hn
   exact ⟨c, (hk.cell r n h.rl hr).trans hc⟩
 bX := h.bX
 lt x hx := Nat.lt_of_lt_of_le (h.lt x hx) hk.size
 cell n a d hn ha hd := (hk.cell _ _ (h.lt _ (h.bX n hn)) (hX _ (h.bX n hn))).trans (h.cell n a d hn ha hd)
 fr n i hn := (hk.frozen _ _ (h.lt _ (h.bX n hn)) (hX _ (h.bX n hn))).trans (h.fr n i hn)
 inj := h.inj
theorem TabM.kept0 (h : TabM N F X bs r w T) (hk : Kept [] w w') : TabM N F X bs r w' T := h.kept hk (by simp) (by simp)
theorem TabM.later (h : TabM N F X bs r w T) (hb : Below w.heap.size w w') : TabM N F X bs r w' T := h.kept0 ((Kept.refl _ _).call hb)
theorem cell_inj {F a d a' d' : Nat} (hd : d < F) (hd' : d' < F) (h : a * F + d = a' * F + d') : a = a' ∧ d = d' := by
 have h1 : (a * F + d) / F = a := by rw [Nat.mul_comm, Nat.mul_add_div (by omega), Nat.div_eq_of_lt hd, Nat.add_zero]
 have h2 : (a' * F + d') / F = a' := by rw [Nat.mul_comm, Nat.mul_add_div (by omega), Nat.div_eq_of_lt hd', Nat.add_zero]
 have e : a = a' := by rw [← h1, h, h2]
 subst e
 exact ⟨rfl, by omega⟩
theorem cell_lt {F a d : Nat} (ha : a < F) (hd : d < F) : a * F + d < F * F := by
 have : (a + 1) * F ≤ F * F := Nat.mul_le_mul_right F (by omega)
 rw [Nat.add_mul] at this
 omega
theorem TabM.set (h : TabM N F X bs r w T) {n a d : Nat} (hn : n < N) (ha : a < F) (hd : d < F) :
   TabM N F X bs r (w.setCell ⟨bs n, a * F + d, none⟩ (.bool true)) (fun n' a' d' => T n' a' d' || (n' == n && (a' == a && d' == d))) where
 rl := by simpa [World.setCell] using h.rl
 rX := h.rX
 row n' hn' := by
   obtain ⟨c, hc⟩ := h.row n' hn'
   exact ⟨c, (set_other (.inl (fun e => h.rX (by rw [← e]; exact h.bX n hn)))).trans hc⟩
 bX := h.bX
 lt x hx := by simpa [World.setCell] using h.lt x hx
 cell n' a' d' hn' ha' hd' := by
   by_cases e : n' = n
   · subst e
     by_cases e2 : a * F + d = a' * F + d'
     · obtain ⟨rfl, rfl⟩ := cell_inj hd hd' e2
       rw [set_same (h.cell n' a d hn' ha hd)]
       simp
     · rw [set_other (.inr e2), h.cell n' a' d' hn' ha' hd']
       have : (a' == a && d' == d) = false := by
         rw [Bool.eq_false_iff]
         intro h9
         simp at h9
         exact e2 (by rw [h9.1, h9.2])
       simp [this]
   · rw [set_other (.inl (fun e' => e (h.inj _ _ hn hn' e').symm)), h.cell n' a' d' hn' ha' hd']
     simp [e]
 fr n' i hn' := by simpa using h.fr n' i hn'
 inj := h.inj
def Turns (N F : Nat) (X : List Nat) (bs : Nat → Nat) (r : Nat) (w : World) (s : Tm) (e : Ending) (w' : World) : Prop := e = .returned (.bool s.2) ∧ Kept X w w' ∧ TabM N F X bs r w' s.1
abbrev tabV (N F r c : Nat) : Value := .agg #[.int .i64 (F : Nat), .slice (some ⟨r, 0, none⟩) N c]
end If
end Go.Df
namespace Go.Proofs.YtooejoajojanjaaGreatDoor
open Go.RowKit Go.Df Go.Df.If
attribute [local go_sem ↓] Go.wp_at_zero Go.wp_at_succ
variable {N F : Nat} {X : List Nat} {bs : Nat → Nat} {r : Nat} {w : World} {T : Nat → Nat → Nat → Bool}
set_option maxRecDepth 100000 in
set_option maxHeartbeats 4000000 in
theorem rtHas_is (c a n d : Nat) (v : Bool) (w : World) (hT : TabM N F X bs r w T) (_hN : N ≤ 8192) (hF : F ≤ 1024) (hn : n < N) (ha : a < F) (hd : d < F) (hv : T n a d = v) :
   Calls Tryz.prog 64 #[tabV N F r c, .int .i64 a, .int .i64 n, .int .i64 d] w fun e w' => e = .returned (.bool v) ∧ Below w.heap.size w w' := by
 obtain ⟨c', hrow⟩ := hT.row n hn
 have hcell := hT.cell n a d hn ha hd
 rw [hv] at hcell
 have hrl := hT.rl
 have hbl := hT.lt _ (hT.bX n hn)
 have hlt := cell_lt ha hd
 have hm1 : F * F ≤ 1024 * 1024 := Nat.mul_le_mul hF hF
 obtain ⟨u, hu⟩ : ∃ u, a * F = u := ⟨_, rfl⟩
 obtain ⟨m, hm⟩ : ∃ m, F * F = m := ⟨_, rfl⟩
 have hmul : (a : Int) * (F : Int) = (u : Int) := by rw [← hu]; simp
 rw [hu] at hcell hlt
 rw [hm] at hrow hlt hm1
 have x1 : IntKind.i64.wrap ((a : Int) * (F : Int)) = (u : Int) := by rw [hmul]; exact IntWalk.i64_in _ (by omega)
 have x2 : IntKind.i64.wrap ((u : Int) + (d : Int)) = (u : Int) + (d : Int) := IntWalk.i64_in _ (by omega)
 have x3 : ((u : Int) + (d : Int)).toNat = u + d := by omega
 have x4 : (u : Int) + (d : Int) < (m : Int) := by omega
 have x5 : (0 : Int) ≤ (u : Int) + (d : Int) := by omega
 have x6 : (n : Int) < (N : Int) := by omega
 obtain ⟨bn, hbn⟩ : ∃ bn, bs n = bn := ⟨_, rfl⟩
 rw [hbn] at hrow hcell hbl
 clear hT hu hm hmul hv hbn
 go_enter Tryz.func64, Tryz.ntmps64
 go_upto_region 1 with fail
 refine wp_named (fun W => ∃ b0, w.heap.size = b0 ∧ Blk W b0 [.int .i64 (F : Nat), .slice (some ⟨r, 0, none⟩) N c] ∧ Below w.heap.size w W) ⟨_, rfl, ?_, ?_⟩ ?_
 · exact kbn
 · go_grown
 rintro W ⟨b0, e0, B0, hB⟩
 rw [e0]
 have G0 : w.heap.size ≤ b0 := by omega
 clear e0
 have ⟨L0, C0, F0⟩ := B0
 have r1 : W.cell? ⟨r, n, none⟩ = some (.slice (some ⟨bn, 0, none⟩) m c') := (hB.cell (p := ⟨r, _, none⟩) hrl).trans hrow
 have r2 : W.cell? ⟨bn, u + d, none⟩ = some (.bool v) := (hB.cell (p := ⟨bn, _, none⟩) hbl).trans hcell
 have l1 : r < W.heap.size := Nat.lt_of_lt_of_le hrl hB.size
 have l2 : bn < W.heap.size := Nat.lt_of_lt_of_le hbl hB.size
 clear hrow hcell
 go_quiet (fail)
 go_wp2_with fail
 go_ret
 exact ⟨rfl, (((Kept.refl [] w).call hB).drewN _).toBelow⟩
set_option maxRecDepth 100000 in
set_option maxHeartbeats 4000000 in
theorem rtput_is (c a n d : Nat) (v : Bool) (w : World) (hT : TabM N F X bs r w T) (hN : N ≤ 8192) (hF : F ≤ 1024) (hn : n < N) (ha : a < F) (hd : d < F) (hv : T n a d = v) :
   Calls Tryz.prog 97 #[tabV N F r c, .int .i64 a, .int .i64 n, .int .i64 d] w fun e w' => e = .returned (.bool (!v)) ∧ Kept X w w' ∧ TabM N F X bs r w' (putT (T, false) n a d).1 := by
 have HT := Lib.hid hT
 have HV := Lib.hid hv
 clear hv
 obtain ⟨c', hrow⟩ := hT.row n hn
 have hrl := hT.rl
 have hrX := hT.rX
 have hbX := hT.bX n hn
 have hfr := fun i => hT.fr n i hn
 have hcell := hT.cell n a d hn ha hd
 have hbl := hT.lt _ (hT.bX n hn)
 have hlt := cell_lt ha hd
 have hm1 : F * F ≤ 1024 * 1024 := Nat.mul_le_mul hF hF
 obtain ⟨u, hu⟩ : ∃ u, a * F = u := ⟨_, rfl⟩
 obtain ⟨m, hm⟩ : ∃ m, F * F = m := ⟨_, rfl⟩
 have hmul : (a : Int) * (F : Int) = (u : Int) := by rw [← hu]; simp
 have HU := Lib.hid hu
 rw [hu] at hlt hcell
 rw [hm] at hrow hlt hm1
 have x1 : IntKind.i64.wrap ((a : Int) * (F : Int)) = (u : Int) := by rw [hmul]; exact IntWalk.i64_in _ (by omega)
 have x2 : IntKind.i64.wrap ((u : Int) + (d : Int)) = (u : Int) + (d : Int) := IntWalk.i64_in _ (by omega)
 have x3 : ((u : Int) + (d : Int)).toNat = u + d := by omega
 have x4 : (u : Int) + (d : Int) < (m : Int) := by omega
 have x5 : (0 : Int) ≤ (u : Int) + (d : Int) := by omega
 have x6 : (n : Int) < (N : Int) := by omega
 obtain ⟨bn, hbn⟩ : ∃ bn, bs n = bn := ⟨_, rfl⟩
 rw [hbn] at hrow hcell hbl hbX hfr
 have HBN := Lib.hid hbn
 clear hT hu hm hmul hbn
 go_enter Tryz.func97, Tryz.ntmps97
 go_upto_region 1 with fail
 refine wp_named (fun W => ∃ b0, w.heap.size = b0 ∧ Blk W b0 [.int .i64 (F : Nat), .slice (some ⟨r, 0, none⟩) N c] ∧ Below w.heap.size w W) ⟨_, rfl, ?_, ?_⟩ ?_
 · exact kbn
 · go_grown
 rintro W ⟨b0, e0, B0, hB⟩
 rw [e0]
 have G0 : w.heap.size ≤ b0 := by omega
 clear e0
 have ⟨L0, C0, F0⟩ := B0
 have HTW := Lib.hid (HT.out.later hB)
 cases v with
 | true =>
   go_wp2_with (go_at_call 64; refine (rtHas_is c a n d true _ HTW.out hN hF hn ha hd HV.out).mono ?_; rintro e w1 ⟨rfl, hb1⟩)
   go_ret
   refine ⟨rfl, (Kept.refl X w).call (hB.trans (hb1.mono hB.size)), ?_⟩
   have : (putT (T, false) n a d).1 = T := by unfold putT; rw [if_pos (show T n a d = true from HV.out)]
   rw [this]
   exact HT.out.later (hB.trans (hb1.mono hB.size))
 | false =>
   go_upto_region 3 with (go_at_call 64; refine (rtHas_is c a n d false _ HTW.out hN hF hn ha hd HV.out).mono ?_; rintro e w1 ⟨rfl, hb1⟩)
   have hbw1 : Below w.heap.size w w1 := hB.trans (hb1.mono hB.size)
   have hkW1 : Kept [] W w1 := (Kept.refl _ _).call hb1
   have ⟨L01, C01, F01⟩ := hkW1.blk (by simp) B0
   have r1 : w1.cell? ⟨r, n, none⟩ = some (.slice (some ⟨bn, 0, none⟩) m c') := (hbw1.cell (p := ⟨r, _, none⟩) hrl).trans hrow
   have l1 : r < w1.heap.size := Nat.lt_of_lt_of_le hrl hbw1.size
   have l2 : bn < w1.heap.size := Nat.lt_of_lt_of_le hbl hbw1.size
   have r2 : w1.cell? ⟨bn, u + d, none⟩ = some (.bool (T n a d)) := (hbw1.cell (p := ⟨bn, _, none⟩) hbl).trans hcell
   have r3 : ∀ i, w1.frozen? ⟨bn, i, none⟩ = false := fun i => (hbw1.frozen (p := ⟨bn, _, none⟩) hbl).trans (hfr i)
   have HT1 := Lib.hid (HT.out.later hbw1)
   clear C0 F0 hrow hfr hcell
   refine wp_region_E 12 (fun w' => SX0 w1 w') (by kernel_rfl) (by (exact kp0)) (fun hHeld => ?_)
   refine WE_tk 0 ?_
   refine WE_tk 1 ?_
   refine WE_tk 2 ?_
   refine WE_tk 3 ?_
   refine WE_tk 4 ?_
   refine WE_tk 5 ?_
   refine WE_tk 6 ?_
   refine WE_tk 7 ?_
   refine WE_tk 8 ?_
   refine WE_tk 9 ?_
   refine WE_tk 10 ?_
   refine WE_tk 11 ?_
   refine WE_last rfl (by kernel_rfl) (fun K hK => ?_)
   go_simp
   refine hK.out _ _ ?_
   clear hK K
   go_wp2_with fail
   go_ret
   refine ⟨rfl, (((Kept.refl X w).call hbw1).set bn _ _ (.inl hbX)).drew, ?_⟩
   have : (putT (T, false) n a d).1 = (fun n' a' d' => T n' a' d' || (n' == n && (a' == a && d' == d))) := by unfold putT; rw [if_neg (show ¬ T n a d = true by rw [HV.out]; simp)]
   rw [this]
   have h9 := HT1.out.set hn ha hd
   rw [HBN.out, HU.out] at h9
   exact h9.kept0 (Kept.refl [] _).drew
end Go.Proofs.YtooejoajojanjaaGreatDoor
namespace Go.Df
open Go.RowKit
namespace If
open Sp
theorem hp_f {T : Nat → Nat → Nat → Bool} {m : Bool} {n a d : Nat} {s : Tm} (h : T n a d = false) : (if T n a d = true then s else (T, m)) = (T, m) := by rw [if_neg (by rw [h]; simp)]
theorem hp_tt {T : Nat → Nat → Nat → Bool} {m : Bool} {n a d n2 a2 d2 : Nat} (h : T n a d = true) (h2 : T n2 a2 d2 = true) : (if T n a d = true then putT (T, m) n2 a2 d2 else (T, m)) = (T, m) := by
 rw [if_pos h]
 unfold putT
 rw [if_pos (show (T, m).1 n2 a2 d2 = true from h2)]
theorem hp_tf {T : Nat → Nat → Nat → Bool} {m : Bool} {n a d n2 a2 d2 : Nat} (h : T n a d = true) (h2 : T n2 a2 d2 = false) : (if T n a d = true then putT (T, m) n2 a2 d2 else (T, m)) = ((putT (T, false) n2 a2 d2).1, true) := by
 rw [if_pos h]
 unfold putT
 rw [if_neg (show ¬ (T, m).1 n2 a2 d2 = true by rw [show (T, m).1 n2 a2 d2 = false from h2]; simp), if_neg (show ¬ (T, false).1 n2 a2 d2 = true by rw [show (T, false).1 n2 a2 d2 = false from h2]; simp)]
theorem put_tt {T : Nat → Nat → Nat → Bool} {n a d : Nat} (h : T n a d = true) : (putT (T, false) n a d).1 = T := by
 unfold putT
 rw [if_pos (show (T, false).1 n a d = true from h)]
structure PbW (p : Pb) (N F mN : Nat) (A1 A2 A3 A4 : Option Addr) (n2 n3 n4 : Nat) (w : World) : Prop where
 nd : Nds w A1 N p.ns
 ed : Eds w A2 n2 p.es
 fl : Flw w A3 n3 p.fl
 sd : Sds w A4 n4 p.sd
 hF : p.F = (F : Int)
 hm : p.mn = (mN : Int)
 ok : Ok p
 h4 : n4 ≤ 1000000
theorem PbW.later {p : Pb} {N F mN : Nat} {A1 A2 A3 A4 : Option Addr} {n2 n3 n4 : Nat} {w w' : World} (h : PbW p N F mN A1 A2 A3 A4 n2 n3 n4 w) (hb : Below w.heap.size w w') : PbW p N F mN A1 A2 A3 A4 n2 n3 n4 w' :=
 ⟨h.nd.later hb, h.ed.later hb, h.fl.later hb, h.sd.later hb, h.hF, h.hm, h.ok, h.h4⟩
section
variable {p : Pb} {N F mN : Nat} {A1 A2 A3 A4 : Option Addr} {n2 n3 n4 : Nat} {w : World}
theorem PbW.N8 (h : PbW p N F mN A1 A2 A3 A4 n2 n3 n4 w) : N ≤ 8192 := by have := (sup_parts h.ok.sup).1; have := h.nd.1; omega
theorem PbW.F8 (h : PbW p N F mN A1 A2 A3 A4 n2 n3 n4 w) : F ≤ 1024 := by have := h.ok.f2; have := h.hF; omega
theorem PbW.F1 (h : PbW p N F mN A1 A2 A3 A4 n2 n3 n4 w) : 0 < F := by have := h.ok.f1; have := h.hF; omega
theorem PbW.Fn (h : PbW p N F mN A1 A2 A3 A4 n2 n3 n4 w) : p.F.toNat = F := by rw [h.hF]; rfl
theorem PbW.edge (h : PbW p N F mN A1 A2 A3 A4 n2 n3 n4 w) {k : Nat} (hk : k < n2) : ∃ ea eb : Nat, ∃ ek ec : Int, ge p.es k = ⟨ea, eb, ek, ec⟩ ∧ ea < N ∧ eb < N ∧ 1 ≤ ek ∧ ek ≤ 5 := by
 have h1 := h.ok.edge (k := k) (by rw [h.ed.1]; exact hk)
 have h2 := h.nd.1
 refine ⟨(ge p.es k).a.toNat, (ge p.es k).b.toNat, (ge p.es k).k, (ge p.es k).c, ?_, by omega, by omega, by omega, by omega⟩
 have e1 : (((ge p.es k).a.toNat : Nat) : Int) = (ge p.es k).a := by omega
 have e2 : (((ge p.es k).b.toNat : Nat) : Int) = (ge p.es k).b := by omega
 rw [e1, e2]
theorem PbW.n32 (h : PbW p N F mN A1 A2 A3 A4 n2 n3 n4 w) : n3 = n2 := by have := h.ok.len; have := h.fl.1; have := h.ed.1; omega
theorem PbW.pair (h : PbW p N F mN A1 A2 A3 A4 n2 n3 n4 w) {k i : Nat} (hk : k < n2) (hi : i < (gf p.fl k).length) : ∃ qi qo : Nat, gp (gf p.fl k) i = ⟨qi, qo⟩ ∧ qi < F ∧ qo < F := by
 have h1 := h.ok.pair (k := k) (by rw [h.fl.1, h.n32]; exact hk) (gp_mem hi)
 have h2 := h.hF
 refine ⟨(gp (gf p.fl k) i).i.toNat, (gp (gf p.fl k) i).o.toNat, ?_, by omega, by omega⟩
 have e1 : (((gp (gf p.fl k) i).i.toNat : Nat) : Int) = (gp (gf p.fl k) i).i := by omega
 have e2 : (((gp (gf p.fl k) i).o.toNat : Nat) : Int) = (gp (gf p.fl k) i).o := by omega
 rw [e1, e2]
theorem PbW.seed (h : PbW p N F mN A1 A2 A3 A4 n2 n3 n4 w) {j : Nat} (hj : j < n4) : ∃ sn sf : Nat, gd p.sd j = ⟨sn, sf⟩ ∧ sn < N ∧ sf < F := by
 have h1 := h.ok.seed (gd_mem (i := j) (by rw [h.sd.1]; exact hj))
 have h2 := h.hF
 have h3 := h.nd.1
 refine ⟨(gd p.sd j).n.toNat, (gd p.sd j).f.toNat, ?_, by omega, by omega⟩
 have e1 : (((gd p.sd j).n.toNat : Nat) : Int) = (gd p.sd j).n := by omega
 have e2 : (((gd p.sd j).f.toNat : Nat) : Int) = (gd p.sd j).f := by omega
 rw [e1, e2]
end
end If
end Go.Df
namespace Go.Proofs.YtooejoajojanjaaGreatDoor
open Go.RowKit Go.Df Go.Df.If
attribute [local go_sem ↓] Go.wp_at_zero Go.wp_at_succ
variable {p : Pb} {N F mN : Nat} {A1 A2 A3 A4 : Option Addr} {n2 n3 n4 : Nat} {X : List Nat} {bs : Nat → Nat} {r : Nat} {w0 w : World} {T : Nat → Nat → Nat → Bool}
set_option maxRecDepth 100000 in
set_option maxHeartbeats 4000000 in
theorem rseeded30_any (c1 c2 c3 c4 c : Nat) (w : World) (hP : PbW p N F mN A1 A2 A3 A4 n2 n3 n4 w0) (hb0 : Below w0.heap.size w0 w) (hX : ∀ x ∈ X, w0.heap.size ≤ x) (hT : TabM N F X bs r w T) :
   Calls Tryz.prog 98 #[.agg #[.slice A1 N c1, .slice A2 n2 c2, .int .i64 mN, .int .i64 (F : Nat), .slice A3 n3 c3, .slice A4 n4 c4], tabV N F r c] w (Turns N F X bs r w (seededT p n4 (T, false))) := by
 have HP := Lib.hid hP
 have HX := Lib.hid hX
 have HN8 := Lib.hid hP.N8
 have HF8 := Lib.hid hP.F8
 have HF1 := Lib.hid hP.F1
 have HXlt := Lib.hid hT.lt
 have HT := Lib.hid hT
 have hszw := hb0.size
 have hn4 := hP.h4
 have hF8 := hP.F8
 clear hP hX hT
 go_enter Tryz.func98, Tryz.ntmps98
 go_upto_region 1 with fail
 refine wp_named (fun W => ∃ b0 b1, w.heap.size = b0 ∧ w.heap.size + 1 = b1 ∧ Blk W b0 [.slice A1 N c1, .slice A2 n2 c2, .int .i64 mN, .int .i64 (F : Nat), .slice A3 n3 c3, .slice A4 n4 c4] ∧ Blk W b1 [.int .i64 (F : Nat), .slice (some ⟨r, 0, none⟩) N c] ∧ Below w.heap.size w W) ⟨_, _, rfl, rfl, ?_, ?_, ?_⟩ ?_
 · exact (Blk.new _ _ _ _ (by first | rfl | simp)).alloc _
 · exact kbn
 · go_grown
 rintro W ⟨b0, b1, e0, e1, B0, B1, hB⟩
 rw [e1, e0]
 have G0 : w.heap.size ≤ b0 := by omega
 have n01 : b0 ≠ b1 := by omega
 have G1 : w.heap.size ≤ b1 := by omega
 have n10 : b1 ≠ b0 := by omega
 clear e0 e1
 have ⟨L0, C0, F0⟩ := B0
 have ⟨L1, C1, F1⟩ := B1
 have hX0 : b0 ∉ X := fun h => by have := HXlt.out _ h; omega
 have hX1 : b1 ∉ X := fun h => by have := HXlt.out _ h; omega
 have HXW : Hid (∀ y, W.heap.size ≤ y → y ∉ X) := fun y hy h => by have := HXlt.out _ h; have := hB.size; omega
 have HBW : Hid (Below w0.heap.size w0 W) := Lib.hid (hb0.trans (hB.mono hszw))
 have TW := Lib.hid (HT.out.later hB)
 go_wp2_with fail
 go_loopw [5, 6] (fun s5 s6 wr => ∃ (j : Nat) (m : Bool) (Tj : Nat → Nat → Nat → Bool), j ≤ n4 ∧ s6 = .int .i64 j ∧ s5 = .bool m ∧ Kept X W wr ∧ Hid (TabM N F X bs r wr Tj) ∧ Hid (seededT p j (T, false) = (Tj, m))) (fun _ s6 _ => n4 - (intOf s6).toNat)
 case atStart => exact ⟨0, false, T, Nat.zero_le _, rfl, rfl, Kept.refl _ _, TW, Lib.hid rfl⟩
 case round =>
 clear C0 F0 C1 F1
 obtain ⟨j, m, Tj, hj, rfl, rfl, hkr, TR, HSJ⟩ := hrel
 have ⟨L0r, C0r, F0r⟩ := hkr.blk hX0 B0
 have ⟨L1r, C1r, F1r⟩ := hkr.blk hX1 B1
 have hBr : Below w0.heap.size w0 wr := Kept.below HBW.out HBW.out.size HX.out hkr
 by_cases hlt : j < n4
 · obtain ⟨b, o, rfl, hl, hc⟩ := (HP.out.sd.later hBr).2 (by omega)
   obtain ⟨h1, h2⟩ := hc j hlt
   obtain ⟨sn, sf, en, hsn, hsf⟩ := HP.out.seed hlt
   rw [en] at h1 h2
   have HEN := Lib.hid en
   have hj9 : (j : Int) < (n4 : Int) := by omega
   clear hc en
   go_upto_region 6 with fail
   refine wp_named (fun V => ∃ g, wr.heap.size = g ∧ Blk V g [.int .i64 sn, .int .i64 sf] ∧ Kept [] wr V) ⟨_, rfl, Blk.new _ _ _ _ rfl, (Kept.refl _ _).alloc _⟩ ?_
   rintro V ⟨g, eg, Bg, hkV⟩
   rw [eg]
   have ⟨LG, CG, FG⟩ := Bg
   have ⟨L0V, C0V, F0V⟩ := hkV.blk (by simp) (hkr.blk hX0 B0)
   have ⟨L1V, C1V, F1V⟩ := hkV.blk (by simp) (hkr.blk hX1 B1)
   have TV := Lib.hid (TR.out.kept0 hkV)
   have hkWV : Kept X W V := hkr.next hkV (by simp)
   have HS1 : Hid (seededT p (j + 1) (T, false) = if Tj sn 0 0 = true then putT (Tj, m) sn 0 sf else (Tj, m)) := by
     show _ = _
     have h9 := HSJ.out
     unfold seededT at h9 ⊢
     rw [If.up, h9, HEN.out]
     rfl
   have hq1 := hsn
   have hq2 := HF1.out
   have hq3 := HF1.out
   have hq4 := hsn
   have hq5 := HF1.out
   have hq6 := hsf
   clear h1 h2 eg C0r F0r C1r F1r
   cases hv1 : Tj sn 0 0 with
   | false =>
     have HV1 := Lib.hid hv1
     have HE : Hid (seededT p (j + 1) (T, false) = (Tj, m)) := Lib.hid (HS1.out.trans (hp_f hv1))
     clear hv1
     go_wp2_with (go_at_call 64; refine (rtHas_is c 0 sn 0 false _ TV.out HN8.out HF8.out hq1 hq2 hq3 HV1.out).mono ?_; rintro e w3 ⟨rfl, hb3⟩; have ⟨hc3, hf3, hg3⟩ := bcell hb3)
     exact ⟨⟨j + 1, m, Tj, by omega, by go_num, rfl, (hkWV).call hb3, Lib.hid (TV.out.later hb3), HE⟩, by simp [intOf]; omega⟩
   | true =>
     have HV1 := Lib.hid hv1
     cases hv2 : Tj sn 0 sf with
     | true =>
       have HV2 := Lib.hid hv2
       have HE : Hid (seededT p (j + 1) (T, false) = (Tj, m)) := Lib.hid (HS1.out.trans (hp_tt hv1 hv2))
       have HQ := Lib.hid (put_tt hv2)
       clear hv1 hv2
       go_wp2_with (first | (go_at_call 64; refine (rtHas_is c 0 sn 0 true _ TV.out HN8.out HF8.out hq1 hq2 hq3 HV1.out).mono ?_; rintro e w3 ⟨rfl, hb3⟩; have ⟨hc3, hf3, hg3⟩ := bcell hb3) | (go_at_call 97; refine (rtput_is c 0 sn sf true _ (TV.out.later hb3) HN8.out HF8.out hq4 hq5 hq6 HV2.out).mono ?_; rintro e w4 ⟨rfl, hk4, ht4⟩))
       rw [HQ.out] at ht4
       exact ⟨⟨j + 1, m, Tj, by omega, by go_num, rfl, ((hkWV).call hb3).next hk4 (fun y hy => .inl hy), Lib.hid (ht4), HE⟩, by simp [intOf]; omega⟩
     | false =>
       have HV2 := Lib.hid hv2
       have HE : Hid (seededT p (j + 1) (T, false) = ((putT (Tj, false) sn 0 sf).1, true)) := Lib.hid (HS1.out.trans (hp_tf hv1 hv2))
       clear hv1 hv2
       go_wp2_with (first | (go_at_call 64; refine (rtHas_is c 0 sn 0 true _ TV.out HN8.out HF8.out hq1 hq2 hq3 HV1.out).mono ?_; rintro e w3 ⟨rfl, hb3⟩; have ⟨hc3, hf3, hg3⟩ := bcell hb3) | (go_at_call 97; refine (rtput_is c 0 sn sf false _ (TV.out.later hb3) HN8.out HF8.out hq4 hq5 hq6 HV2.out).mono ?_; rintro e w4 ⟨rfl, hk4, ht4⟩))
       exact ⟨⟨j + 1, true, _, by omega, by go_num, rfl, ((hkWV).call hb3).next hk4 (fun y hy => .inl hy), Lib.hid (ht4), HE⟩, by simp [intOf]; omega⟩
 · obtain rfl : j = n4 := by omega
   go_wp2_with fail
   go_ret
   refine ⟨by rw [HSJ.out]; rfl, (Kept.refl X w).call hB |>.next hkr (fun y hy => .inl hy), ?_⟩
   rw [HSJ.out]
   exact TR.out
set_option maxRecDepth 100000 in
set_option maxHeartbeats 4000000 in
theorem rthrough_any (cn mn d e : Nat) (c1 c2 c3 c4 c : Nat) (w : World) (hP : PbW p N F mN A1 A2 A3 A4 n2 n3 n4 w0) (hb0 : Below w0.heap.size w0 w) (hX : ∀ x ∈ X, w0.heap.size ≤ x) (hT : TabM N F X bs r w T) (hcn : cn < N) (hmn : mn < N) (hd : d < F) (he : e < F) :
   Calls Tryz.prog 140 #[.agg #[.slice A1 N c1, .slice A2 n2 c2, .int .i64 mN, .int .i64 (F : Nat), .slice A3 n3 c3, .slice A4 n4 c4], tabV N F r c, .int .i64 cn, .int .i64 mn, .int .i64 d, .int .i64 e] w (Turns N F X bs r w (throughT cn mn d e F (T, false))) := by
 have HP := Lib.hid hP
 have HX := Lib.hid hX
 have HN8 := Lib.hid hP.N8
 have HF8 := Lib.hid hP.F8
 have HF1 := Lib.hid hP.F1
 have HXlt := Lib.hid hT.lt
 have HT := Lib.hid hT
 have hszw := hb0.size
 have hn4 := hP.h4
 have hF8 := hP.F8
 clear hP hX hT
 go_enter Tryz.func140, Tryz.ntmps140
 go_upto_region 1 with fail
 refine wp_named (fun W => ∃ b0 b1, w.heap.size = b0 ∧ w.heap.size + 1 = b1 ∧ Blk W b0 [.slice A1 N c1, .slice A2 n2 c2, .int .i64 mN, .int .i64 (F : Nat), .slice A3 n3 c3, .slice A4 n4 c4] ∧ Blk W b1 [.int .i64 (F : Nat), .slice (some ⟨r, 0, none⟩) N c] ∧ Below w.heap.size w W) ⟨_, _, rfl, rfl, ?_, ?_, ?_⟩ ?_
 · exact (Blk.new _ _ _ _ (by first | rfl | simp)).alloc _
 · exact kbn
 · go_grown
 rintro W ⟨b0, b1, e0, e1, B0, B1, hB⟩
 rw [e1, e0]
 have G0 : w.heap.size ≤ b0 := by omega
 have n01 : b0 ≠ b1 := by omega
 have G1 : w.heap.size ≤ b1 := by omega
 have n10 : b1 ≠ b0 := by omega
 clear e0 e1
 have ⟨L0, C0, F0⟩ := B0
 have ⟨L1, C1, F1⟩ := B1
 have hX0 : b0 ∉ X := fun h => by have := HXlt.out _ h; omega
 have hX1 : b1 ∉ X := fun h => by have := HXlt.out _ h; omega
 have HXW : Hid (∀ y, W.heap.size ≤ y → y ∉ X) := fun y hy h => by have := HXlt.out _ h; have := hB.size; omega
 have HBW : Hid (Below w0.heap.size w0 W) := Lib.hid (hb0.trans (hB.mono hszw))
 have TW := Lib.hid (HT.out.later hB)
 go_wp2_with fail
 go_loopw [13, 14] (fun s5 s6 wr => ∃ (j : Nat) (m : Bool) (Tj : Nat → Nat → Nat → Bool), j ≤ F ∧ s6 = .int .i64 j ∧ s5 = .bool m ∧ Kept X W wr ∧ Hid (TabM N F X bs r wr Tj) ∧ Hid (throughT cn mn d e j (T, false) = (Tj, m))) (fun _ s6 _ => F - (intOf s6).toNat)
 case atStart => exact ⟨0, false, T, Nat.zero_le _, rfl, rfl, Kept.refl _ _, TW, Lib.hid rfl⟩
 case round =>
 clear C0 F0 C1 F1
 obtain ⟨j, m, Tj, hj, rfl, rfl, hkr, TV, HSJ⟩ := hrel
 have ⟨L0r, C0r, F0r⟩ := hkr.blk hX0 B0
 have ⟨L1r, C1r, F1r⟩ := hkr.blk hX1 B1
 by_cases hlt : j < F
 · have hj9 : (j : Int) < (F : Int) := by omega
   have HS1 : Hid (throughT cn mn d e (j + 1) (T, false) = if Tj cn j d = true then putT (Tj, m) mn j e else (Tj, m)) := by
     show _ = _
     have h9 := HSJ.out
     unfold throughT at h9 ⊢
     rw [If.up, h9]
   have hq1 := hcn
   have hq2 := hlt
   have hq3 := hd
   have hq4 := hmn
   have hq5 := hlt
   have hq6 := he
   cases hv1 : Tj cn j d with
   | false =>
     have HV1 := Lib.hid hv1
     have HE : Hid (throughT cn mn d e (j + 1) (T, false) = (Tj, m)) := Lib.hid (HS1.out.trans (hp_f hv1))
     clear hv1
     go_wp2_with (go_at_call 64; refine (rtHas_is c j cn d false _ TV.out HN8.out HF8.out hq1 hq2 hq3 HV1.out).mono ?_; rintro e w3 ⟨rfl, hb3⟩; have ⟨hc3, hf3, hg3⟩ := bcell hb3)
     exact ⟨⟨j + 1, m, Tj, by omega, by go_num, rfl, (hkr).call hb3, Lib.hid (TV.out.later hb3), HE⟩, by simp [intOf]; omega⟩
   | true =>
     have HV1 := Lib.hid hv1
     cases hv2 : Tj mn j e with
     | true =>
       have HV2 := Lib.hid hv2
       have HE : Hid (throughT cn mn d e (j + 1) (T, false) = (Tj, m)) := Lib.hid (HS1.out.trans (hp_tt hv1 hv2))
       have HQ := Lib.hid (put_tt hv2)
       clear hv1 hv2
       go_wp2_with (first | (go_at_call 64; refine (rtHas_is c j cn d true _ TV.out HN8.out HF8.out hq1 hq2 hq3 HV1.out).mono ?_; rintro e w3 ⟨rfl, hb3⟩; have ⟨hc3, hf3, hg3⟩ := bcell hb3) | (go_at_call 97; refine (rtput_is c j mn e true _ (TV.out.later hb3) HN8.out HF8.out hq4 hq5 hq6 HV2.out).mono ?_; rintro e w4 ⟨rfl, hk4, ht4⟩))
       rw [HQ.out] at ht4
       exact ⟨⟨j + 1, m, Tj, by omega, by go_num, rfl, ((hkr).call hb3).next hk4 (fun y hy => .inl hy), Lib.hid (ht4), HE⟩, by simp [intOf]; omega⟩
     | false =>
       have HV2 := Lib.hid hv2
       have HE : Hid (throughT cn mn d e (j + 1) (T, false) = ((putT (Tj, false) mn j e).1, true)) := Lib.hid (HS1.out.trans (hp_tf hv1 hv2))
       clear hv1 hv2
       go_wp2_with (first | (go_at_call 64; refine (rtHas_is c j cn d true _ TV.out HN8.out HF8.out hq1 hq2 hq3 HV1.out).mono ?_; rintro e w3 ⟨rfl, hb3⟩; have ⟨hc3, hf3, hg3⟩ := bcell hb3) | (go_at_call 97; refine (rtput_is c j mn e false _ (TV.out.later hb3) HN8.out HF8.out hq4 hq5 hq6 HV2.out).mono ?_; rintro e w4 ⟨rfl, hk4, ht4⟩))
       exact ⟨⟨j + 1, true, _, by omega, by go_num, rfl, ((hkr).call hb3).next hk4 (fun y hy => .inl hy), Lib.hid (ht4), HE⟩, by simp [intOf]; omega⟩
 · obtain rfl : j = F := by omega
   have TR := TV
   go_wp2_with fail
   go_ret
   refine ⟨by rw [HSJ.out]; rfl, (Kept.refl X w).call hB |>.next hkr (fun y hy => .inl hy), ?_⟩
   rw [HSJ.out]
   exact TR.out
end Go.Proofs.YtooejoajojanjaaGreatDoor
namespace Go.Proofs.YtooejoajojanjaaGreatDoor
open Go.RowKit Go.Df Go.Df.If
attribute [local go_sem ↓] Go.wp_at_zero Go.wp_at_succ
variable {p : Pb} {N F mN : Nat} {A1 A2 A3 A4 : Option Addr} {n2 n3 n4 : Nat} {X : List Nat} {bs : Nat → Nat} {r : Nat} {w0 w : World} {T : Nat → Nat → Nat → Bool}
set_option maxRecDepth 100000 in
set_option maxHeartbeats 4000000 in
theorem rpassed30_any (k : Nat) (c1 c2 c3 c4 c : Nat) (w : World) (hP : PbW p N F mN A1 A2 A3 A4 n2 n3 n4 w0) (hb0 : Below w0.heap.size w0 w) (hX : ∀ x ∈ X, w0.heap.size ≤ x) (hT : TabM N F X bs r w T) (hk : k < n2) :
   Calls Tryz.prog 99 #[.agg #[.slice A1 N c1, .slice A2 n2 c2, .int .i64 mN, .int .i64 (F : Nat), .slice A3 n3 c3, .slice A4 n4 c4], tabV N F r c, .int .i64 k] w (Turns N F X bs r w (passedT p k F (T, false))) := by
 have HP := Lib.hid hP
 have HX := Lib.hid hX
 have HN8 := Lib.hid hP.N8
 have HF8 := Lib.hid hP.F8
 have HF1 := Lib.hid hP.F1
 have HXlt := Lib.hid hT.lt
 have HT := Lib.hid hT
 have hszw := hb0.size
 have hn4 := hP.h4
 have hF8 := hP.F8
 clear hP hX hT
 go_enter Tryz.func99, Tryz.ntmps99
 go_upto_region 1 with fail
 refine wp_named (fun W => ∃ b0 b1, w.heap.size = b0 ∧ w.heap.size + 1 = b1 ∧ Blk W b0 [.slice A1 N c1, .slice A2 n2 c2, .int .i64 mN, .int .i64 (F : Nat), .slice A3 n3 c3, .slice A4 n4 c4] ∧ Blk W b1 [.int .i64 (F : Nat), .slice (some ⟨r, 0, none⟩) N c] ∧ Below w.heap.size w W) ⟨_, _, rfl, rfl, ?_, ?_, ?_⟩ ?_
 · exact (Blk.new _ _ _ _ (by first | rfl | simp)).alloc _
 · exact kbn
 · go_grown
 rintro W ⟨b0, b1, e0, e1, B0, B1, hB⟩
 rw [e1, e0]
 have G0 : w.heap.size ≤ b0 := by omega
 have n01 : b0 ≠ b1 := by omega
 have G1 : w.heap.size ≤ b1 := by omega
 have n10 : b1 ≠ b0 := by omega
 clear e0 e1
 have ⟨L0, C0, F0⟩ := B0
 have ⟨L1, C1, F1⟩ := B1
 have hX0 : b0 ∉ X := fun h => by have := HXlt.out _ h; omega
 have hX1 : b1 ∉ X := fun h => by have := HXlt.out _ h; omega
 have HXW : Hid (∀ y, W.heap.size ≤ y → y ∉ X) := fun y hy h => by have := HXlt.out _ h; have := hB.size; omega
 have HBW : Hid (Below w0.heap.size w0 W) := Lib.hid (hb0.trans (hB.mono hszw))
 have TW := Lib.hid (HT.out.later hB)
 obtain ⟨be, oe, rfl, hle, hce⟩ := (HP.out.ed.later HBW.out).2 (by omega)
 obtain ⟨e1, e2, e3, e4⟩ := hce k hk
 obtain ⟨ea, eb, ek, ec, en, hea, heb, -, -⟩ := HP.out.edge hk
 rw [en] at e1 e2 e3 e4
 have HEN := Lib.hid en
 have hk9 : (k : Int) < (n2 : Int) := by omega
 obtain rfl : n3 = n2 := HP.out.n32
 clear hce en
 go_upto_region 3 with fail
 refine wp_named (fun V => ∃ g, W.heap.size = g ∧ Blk V g [.int .i64 ea, .int .i64 eb, .int .i64 ek, .int .i64 ec] ∧ Kept [] W V) ⟨_, rfl, Blk.new _ _ _ _ rfl, (Kept.refl _ _).alloc _⟩ ?_
 rintro V ⟨ge, eg, Bge, hkV0⟩
 rw [eg]
 have ⟨LG, CG, FG⟩ := Bge
 have BV0 := hkV0.blk (by simp) B0
 have BV1 := hkV0.blk (by simp) B1
 have ⟨L0V, C0V, F0V⟩ := BV0
 have ⟨L1V, C1V, F1V⟩ := BV1
 have hXg : ge ∉ X := HXW.out ge (by omega)
 have TV0 := Lib.hid (TW.out.kept0 hkV0)
 have hszV := hkV0.size
 have HBV : Hid (Below w0.heap.size w0 V) := Lib.hid (HBW.out.trans (hkV0.toBelow.mono HBW.out.size))
 have HBwV : Hid (Kept [] w V) := Lib.hid (((Kept.refl [] w).call hB).next hkV0 (by simp))
 obtain ⟨bf, of_, rfl, hlf, hcf⟩ := HP.out.fl.2 (by omega)
 obtain ⟨Af, nf, cf, f1, f2, f3⟩ := hcf k hk
 have HPR := Lib.hid f3
 have HFL := Lib.hid f3.1
 have hnf : nf ≤ 8192 := by have := (HP.out.ok.fl k (by rw [HP.out.fl.1]; exact hk)).1; have := f3.1; omega
 have HF1' := Lib.hid f1
 have hFn := Lib.hid HP.out.Fn
 clear C0 F0 C1 F1 e1 e2 e3 e4 eg f1 f3 hcf
 go_wp2_with fail
 go_loopw [7, 9] (fun s7 s9 wr => ∃ (a : Nat) (m : Bool) (Ta : Nat → Nat → Nat → Bool), a ≤ F ∧ s9 = .int .i64 a ∧ s7 = .bool m ∧ Kept X V wr ∧ Hid (TabM N F X bs r wr Ta) ∧ Hid (passedT p k a (T, false) = (Ta, m))) (fun _ s9 _ => F - (intOf s9).toNat)
 case atStart => exact ⟨0, false, T, Nat.zero_le _, rfl, rfl, Kept.refl _ _, TV0, Lib.hid rfl⟩
 case round =>
 clear C0V F0V C1V F1V CG FG
 obtain ⟨a, m0, Ta, ha, rfl, rfl, hkr, TR, HSJ⟩ := hrel
 have BR0 := hkr.blk hX0 BV0
 have BR1 := hkr.blk hX1 BV1
 have BRg := hkr.blk hXg Bge
 have ⟨L0r, C0r, F0r⟩ := BR0
 have ⟨L1r, C1r, F1r⟩ := BR1
 have ⟨Lgr, Cgr, Fgr⟩ := BRg
 by_cases hlt : a < F
 · have ha9 : (a : Int) < (F : Int) := by omega
   go_wp2_with fail
   go_loopw [7, 10] (fun s7 s10 wq => ∃ (i : Nat) (m : Bool) (Tj : Nat → Nat → Nat → Bool), i ≤ nf ∧ s10 = .int .i64 i ∧ s7 = .bool m ∧ Kept X wr wq ∧ Hid (TabM N F X bs r wq Tj) ∧ Hid (passedR p k a i (Ta, m0) = (Tj, m))) (fun _ s10 _ => nf - (intOf s10).toNat)
   case atStart => exact ⟨0, m0, Ta, Nat.zero_le _, rfl, rfl, Kept.refl _ _, TR, Lib.hid rfl⟩
   case round =>
   rename World => wq
   clear C0r F0r C1r F1r Cgr Fgr
   obtain ⟨i, m, Tj, hi, rfl, rfl, hkq, TQ, HSI⟩ := hrel
   have ⟨L0q, C0q, F0q⟩ := hkq.blk hX0 BR0
   have ⟨L1q, C1q, F1q⟩ := hkq.blk hX1 BR1
   have ⟨Lgq, Cgq, Fgq⟩ := hkq.blk hXg BRg
   have hkVq : Kept X V wq := hkr.next hkq (fun y hy => .inl hy)
   have hBq : Below w0.heap.size w0 wq := Kept.below HBV.out HBV.out.size HX.out hkVq
   have f1q := (hBq.cell (p := ⟨bf, _, none⟩) hlf).trans HF1'.out
   have lfq : bf < wq.heap.size := Nat.lt_of_lt_of_le hlf hBq.size
   by_cases hli : i < nf
   · obtain ⟨bp, op, rfl, hlp, hcp⟩ := (HPR.out.later hBq).2 (by omega)
     obtain ⟨h1, h2⟩ := hcp i hli
     obtain ⟨qi, qo, eq_, hqi, hqo⟩ := HP.out.pair (k := k) (i := i) hk (by rw [HFL.out]; exact hli)
     rw [eq_] at h1 h2
     have HEQ := Lib.hid eq_
     have hi9 : (i : Int) < (nf : Int) := by omega
     clear hcp eq_
     go_upto_region 10 with fail
     refine wp_named (fun U => ∃ g, wq.heap.size = g ∧ Blk U g [.int .i64 qi, .int .i64 qo] ∧ Kept [] wq U) ⟨_, rfl, Blk.new _ _ _ _ rfl, (Kept.refl _ _).alloc _⟩ ?_
     rintro U ⟨g, eg, Bg, hkU⟩
     rw [eg]
     have ⟨LQ, CQ, FQ⟩ := Bg
     have ⟨L1U, C1U, F1U⟩ := hkU.blk (by simp) (hkq.blk hX1 BR1)
     have ⟨LgU, CgU, FgU⟩ := hkU.blk (by simp) (hkq.blk hXg BRg)
     have TV := Lib.hid (TQ.out.kept0 hkU)
     have hkqU : Kept X wr U := hkq.next hkU (by simp)
     have HS1 : Hid (passedR p k a (i + 1) (Ta, m0) = if Tj ea a qi = true then putT (Tj, m) eb a qo else (Tj, m)) := by
       show _ = _
       have h9 := HSI.out
       unfold passedR at h9 ⊢
       rw [If.up, h9, HEN.out, HEQ.out]
       rfl
     have hq1 := hea
     have hq2 := hlt
     have hq3 := hqi
     have hq4 := heb
     have hq5 : a < F := by omega
     have hq6 := hqo
     clear h1 h2 eg C0q F0q C1q F1q Cgq Fgq f1q
     cases hv1 : Tj ea a qi with
     | false =>
       have HV1 := Lib.hid hv1
       have HE : Hid (passedR p k a (i + 1) (Ta, m0) = (Tj, m)) := Lib.hid (HS1.out.trans (hp_f hv1))
       clear hv1
       go_wp2_with (go_at_call 64; refine (rtHas_is c a ea qi false _ TV.out HN8.out HF8.out hq1 hq2 hq3 HV1.out).mono ?_; rintro e w3 ⟨rfl, hb3⟩; have ⟨hc3, hf3, hg3⟩ := bcell hb3)
       exact ⟨⟨i + 1, m, Tj, by omega, by go_num, rfl, (hkqU).call hb3, Lib.hid (TV.out.later hb3), HE⟩, by simp [intOf]; omega⟩
     | true =>
       have HV1 := Lib.hid hv1
       cases hv2 : Tj eb a qo with
       | true =>
         have HV2 := Lib.hid hv2
         have HE : Hid (passedR p k a (i + 1) (Ta, m0) = (Tj, m)) := Lib.hid (HS1.out.trans (hp_tt hv1 hv2))
         have HQ := Lib.hid (put_tt hv2)
         clear hv1 hv2
         go_wp2_with (first | (go_at_call 64; refine (rtHas_is c a ea qi true _ TV.out HN8.out HF8.out hq1 hq2 hq3 HV1.out).mono ?_; rintro e w3 ⟨rfl, hb3⟩; have ⟨hc3, hf3, hg3⟩ := bcell hb3) | (go_at_call 97; refine (rtput_is c a eb qo true _ (TV.out.later hb3) HN8.out HF8.out hq4 hq5 hq6 HV2.out).mono ?_; rintro e w4 ⟨rfl, hk4, ht4⟩))
         rw [HQ.out] at ht4
         exact ⟨⟨i + 1, m, Tj, by omega, by go_num, rfl, ((hkqU).call hb3).next hk4 (fun y hy => .inl hy), Lib.hid (ht4), HE⟩, by simp [intOf]; omega⟩
       | false =>
         have HV2 := Lib.hid hv2
         have HE : Hid (passedR p k a (i + 1) (Ta, m0) = ((putT (Tj, false) eb a qo).1, true)) := Lib.hid (HS1.out.trans (hp_tf hv1 hv2))
         clear hv1 hv2
         go_wp2_with (first | (go_at_call 64; refine (rtHas_is c a ea qi true _ TV.out HN8.out HF8.out hq1 hq2 hq3 HV1.out).mono ?_; rintro e w3 ⟨rfl, hb3⟩; have ⟨hc3, hf3, hg3⟩ := bcell hb3) | (go_at_call 97; refine (rtput_is c a eb qo false _ (TV.out.later hb3) HN8.out HF8.out hq4 hq5 hq6 HV2.out).mono ?_; rintro e w4 ⟨rfl, hk4, ht4⟩))
         exact ⟨⟨i + 1, true, _, by omega, by go_num, rfl, ((hkqU).call hb3).next hk4 (fun y hy => .inl hy), Lib.hid (ht4), HE⟩, by simp [intOf]; omega⟩
   · obtain rfl : i = nf := by omega
     have HSA : Hid (passedT p k (a + 1) (T, false) = (Tj, m)) := by
       show _ = _
       have h9 := HSJ.out
       have h8 := HSI.out
       unfold passedT at h9 ⊢
       rw [If.up, h9, HFL.out, h8]
     go_wp2_with fail
     exact ⟨⟨a + 1, m, Tj, by omega, by go_num, rfl, hkVq, TQ, HSA⟩, by simp [intOf]; omega⟩
 · obtain rfl : a = F := by omega
   go_wp2_with fail
   go_ret
   refine ⟨by rw [HSJ.out]; rfl, (keptWide HBwV.out (by simp)).next hkr (fun y hy => .inl hy), ?_⟩
   rw [HSJ.out]
   exact TR.out
set_option maxRecDepth 100000 in
set_option maxHeartbeats 4000000 in
theorem rentered30_any (k : Nat) (c1 c2 c3 c4 c : Nat) (w : World) (hP : PbW p N F mN A1 A2 A3 A4 n2 n3 n4 w0) (hb0 : Below w0.heap.size w0 w) (hX : ∀ x ∈ X, w0.heap.size ≤ x) (hT : TabM N F X bs r w T) (hk : k < n2) :
   Calls Tryz.prog 100 #[.agg #[.slice A1 N c1, .slice A2 n2 c2, .int .i64 mN, .int .i64 (F : Nat), .slice A3 n3 c3, .slice A4 n4 c4], tabV N F r c, .int .i64 k] w (Turns N F X bs r w (enteredT p k F (T, false))) := by
 have HP := Lib.hid hP
 have HX := Lib.hid hX
 have HN8 := Lib.hid hP.N8
 have HF8 := Lib.hid hP.F8
 have HF1 := Lib.hid hP.F1
 have HXlt := Lib.hid hT.lt
 have HT := Lib.hid hT
 have hszw := hb0.size
 have hn4 := hP.h4
 have hF8 := hP.F8
 clear hP hX hT
 go_enter Tryz.func100, Tryz.ntmps100
 go_upto_region 1 with fail
 refine wp_named (fun W => ∃ b0 b1, w.heap.size = b0 ∧ w.heap.size + 1 = b1 ∧ Blk W b0 [.slice A1 N c1, .slice A2 n2 c2, .int .i64 mN, .int .i64 (F : Nat), .slice A3 n3 c3, .slice A4 n4 c4] ∧ Blk W b1 [.int .i64 (F : Nat), .slice (some ⟨r, 0, none⟩) N c] ∧ Below w.heap.size w W) ⟨_, _, rfl, rfl, ?_, ?_, ?_⟩ ?_
 · exact (Blk.new _ _ _ _ (by first | rfl | simp)).alloc _
 · exact kbn
 · go_grown
 rintro W ⟨b0, b1, e0, e1, B0, B1, hB⟩
 rw [e1, e0]
 have G0 : w.heap.size ≤ b0 := by omega
 have n01 : b0 ≠ b1 := by omega
 have G1 : w.heap.size ≤ b1 := by omega
 have n10 : b1 ≠ b0 := by omega
 clear e0 e1
 have ⟨L0, C0, F0⟩ := B0
 have ⟨L1, C1, F1⟩ := B1
 have hX0 : b0 ∉ X := fun h => by have := HXlt.out _ h; omega
 have hX1 : b1 ∉ X := fun h => by have := HXlt.out _ h; omega
 have HXW : Hid (∀ y, W.heap.size ≤ y → y ∉ X) := fun y hy h => by have := HXlt.out _ h; have := hB.size; omega
 have HBW : Hid (Below w0.heap.size w0 W) := Lib.hid (hb0.trans (hB.mono hszw))
 have TW := Lib.hid (HT.out.later hB)
 obtain ⟨be, oe, rfl, hle, hce⟩ := (HP.out.ed.later HBW.out).2 (by omega)
 obtain ⟨e1, e2, e3, e4⟩ := hce k hk
 obtain ⟨ea, eb, ek, ec, en, hea, heb, -, -⟩ := HP.out.edge hk
 rw [en] at e1 e2 e3 e4
 have HEN := Lib.hid en
 have hk9 : (k : Int) < (n2 : Int) := by omega
 obtain rfl : n3 = n2 := HP.out.n32
 clear hce en
 go_upto_region 3 with fail
 refine wp_named (fun V => ∃ g, W.heap.size = g ∧ Blk V g [.int .i64 ea, .int .i64 eb, .int .i64 ek, .int .i64 ec] ∧ Kept [] W V) ⟨_, rfl, Blk.new _ _ _ _ rfl, (Kept.refl _ _).alloc _⟩ ?_
 rintro V ⟨ge, eg, Bge, hkV0⟩
 rw [eg]
 have ⟨LG, CG, FG⟩ := Bge
 have BV0 := hkV0.blk (by simp) B0
 have BV1 := hkV0.blk (by simp) B1
 have ⟨L0V, C0V, F0V⟩ := BV0
 have ⟨L1V, C1V, F1V⟩ := BV1
 have hXg : ge ∉ X := HXW.out ge (by omega)
 have TV0 := Lib.hid (TW.out.kept0 hkV0)
 have hszV := hkV0.size
 have HBV : Hid (Below w0.heap.size w0 V) := Lib.hid (HBW.out.trans (hkV0.toBelow.mono HBW.out.size))
 have HBwV : Hid (Kept [] w V) := Lib.hid (((Kept.refl [] w).call hB).next hkV0 (by simp))
 obtain ⟨bf, of_, rfl, hlf, hcf⟩ := HP.out.fl.2 (by omega)
 obtain ⟨Af, nf, cf, f1, f2, f3⟩ := hcf k hk
 have HPR := Lib.hid f3
 have HFL := Lib.hid f3.1
 have hnf : nf ≤ 8192 := by have := (HP.out.ok.fl k (by rw [HP.out.fl.1]; exact hk)).1; have := f3.1; omega
 have HF1' := Lib.hid f1
 have hFn := Lib.hid HP.out.Fn
 clear C0 F0 C1 F1 e1 e2 e3 e4 eg f1 f3 hcf
 go_wp2_with fail
 go_loopw [7, 9] (fun s7 s9 wr => ∃ (a : Nat) (m : Bool) (Ta : Nat → Nat → Nat → Bool), a ≤ F ∧ s9 = .int .i64 a ∧ s7 = .bool m ∧ Kept X V wr ∧ Hid (TabM N F X bs r wr Ta) ∧ Hid (enteredT p k a (T, false) = (Ta, m))) (fun _ s9 _ => F - (intOf s9).toNat)
 case atStart => exact ⟨0, false, T, Nat.zero_le _, rfl, rfl, Kept.refl _ _, TV0, Lib.hid rfl⟩
 case round =>
 clear C0V F0V C1V F1V CG FG
 obtain ⟨a, m0, Ta, ha, rfl, rfl, hkr, TR, HSJ⟩ := hrel
 have BR0 := hkr.blk hX0 BV0
 have BR1 := hkr.blk hX1 BV1
 have BRg := hkr.blk hXg Bge
 have ⟨L0r, C0r, F0r⟩ := BR0
 have ⟨L1r, C1r, F1r⟩ := BR1
 have ⟨Lgr, Cgr, Fgr⟩ := BRg
 by_cases hlt : a < F
 · have ha9 : (a : Int) < (F : Int) := by omega
   go_wp2_with fail
   go_loopw [7, 10] (fun s7 s10 wq => ∃ (i : Nat) (m : Bool) (Tj : Nat → Nat → Nat → Bool), i ≤ nf ∧ s10 = .int .i64 i ∧ s7 = .bool m ∧ Kept X wr wq ∧ Hid (TabM N F X bs r wq Tj) ∧ Hid (enteredR p k a i (Ta, m0) = (Tj, m))) (fun _ s10 _ => nf - (intOf s10).toNat)
   case atStart => exact ⟨0, m0, Ta, Nat.zero_le _, rfl, rfl, Kept.refl _ _, TR, Lib.hid rfl⟩
   case round =>
   rename World => wq
   clear C0r F0r C1r F1r Cgr Fgr
   obtain ⟨i, m, Tj, hi, rfl, rfl, hkq, TQ, HSI⟩ := hrel
   have ⟨L0q, C0q, F0q⟩ := hkq.blk hX0 BR0
   have ⟨L1q, C1q, F1q⟩ := hkq.blk hX1 BR1
   have ⟨Lgq, Cgq, Fgq⟩ := hkq.blk hXg BRg
   have hkVq : Kept X V wq := hkr.next hkq (fun y hy => .inl hy)
   have hBq : Below w0.heap.size w0 wq := Kept.below HBV.out HBV.out.size HX.out hkVq
   have f1q := (hBq.cell (p := ⟨bf, _, none⟩) hlf).trans HF1'.out
   have lfq : bf < wq.heap.size := Nat.lt_of_lt_of_le hlf hBq.size
   by_cases hli : i < nf
   · obtain ⟨bp, op, rfl, hlp, hcp⟩ := (HPR.out.later hBq).2 (by omega)
     obtain ⟨h1, h2⟩ := hcp i hli
     obtain ⟨qi, qo, eq_, hqi, hqo⟩ := HP.out.pair (k := k) (i := i) hk (by rw [HFL.out]; exact hli)
     rw [eq_] at h1 h2
     have HEQ := Lib.hid eq_
     have hi9 : (i : Int) < (nf : Int) := by omega
     clear hcp eq_
     go_upto_region 10 with fail
     refine wp_named (fun U => ∃ g, wq.heap.size = g ∧ Blk U g [.int .i64 qi, .int .i64 qo] ∧ Kept [] wq U) ⟨_, rfl, Blk.new _ _ _ _ rfl, (Kept.refl _ _).alloc _⟩ ?_
     rintro U ⟨g, eg, Bg, hkU⟩
     rw [eg]
     have ⟨LQ, CQ, FQ⟩ := Bg
     have ⟨L1U, C1U, F1U⟩ := hkU.blk (by simp) (hkq.blk hX1 BR1)
     have ⟨LgU, CgU, FgU⟩ := hkU.blk (by simp) (hkq.blk hXg BRg)
     have TV := Lib.hid (TQ.out.kept0 hkU)
     have hkqU : Kept X wr U := hkq.next hkU (by simp)
     have HS1 : Hid (enteredR p k a (i + 1) (Ta, m0) = if Tj ea a qi = true then putT (Tj, m) eb qo qo else (Tj, m)) := by
       show _ = _
       have h9 := HSI.out
       unfold enteredR at h9 ⊢
       rw [If.up, h9, HEN.out, HEQ.out]
       rfl
     have hq1 := hea
     have hq2 := hlt
     have hq3 := hqi
     have hq4 := heb
     have hq5 : qo < F := by omega
     have hq6 := hqo
     clear h1 h2 eg C0q F0q C1q F1q Cgq Fgq f1q
     cases hv1 : Tj ea a qi with
     | false =>
       have HV1 := Lib.hid hv1
       have HE : Hid (enteredR p k a (i + 1) (Ta, m0) = (Tj, m)) := Lib.hid (HS1.out.trans (hp_f hv1))
       clear hv1
       go_wp2_with (go_at_call 64; refine (rtHas_is c a ea qi false _ TV.out HN8.out HF8.out hq1 hq2 hq3 HV1.out).mono ?_; rintro e w3 ⟨rfl, hb3⟩; have ⟨hc3, hf3, hg3⟩ := bcell hb3)
       exact ⟨⟨i + 1, m, Tj, by omega, by go_num, rfl, (hkqU).call hb3, Lib.hid (TV.out.later hb3), HE⟩, by simp [intOf]; omega⟩
     | true =>
       have HV1 := Lib.hid hv1
       cases hv2 : Tj eb qo qo with
       | true =>
         have HV2 := Lib.hid hv2
         have HE : Hid (enteredR p k a (i + 1) (Ta, m0) = (Tj, m)) := Lib.hid (HS1.out.trans (hp_tt hv1 hv2))
         have HQ := Lib.hid (put_tt hv2)
         clear hv1 hv2
         go_wp2_with (first | (go_at_call 64; refine (rtHas_is c a ea qi true _ TV.out HN8.out HF8.out hq1 hq2 hq3 HV1.out).mono ?_; rintro e w3 ⟨rfl, hb3⟩; have ⟨hc3, hf3, hg3⟩ := bcell hb3) | (go_at_call 97; refine (rtput_is c qo eb qo true _ (TV.out.later hb3) HN8.out HF8.out hq4 hq5 hq6 HV2.out).mono ?_; rintro e w4 ⟨rfl, hk4, ht4⟩))
         rw [HQ.out] at ht4
         exact ⟨⟨i + 1, m, Tj, by omega, by go_num, rfl, ((hkqU).call hb3).next hk4 (fun y hy => .inl hy), Lib.hid (ht4), HE⟩, by simp [intOf]; omega⟩
       | false =>
         have HV2 := Lib.hid hv2
         have HE : Hid (enteredR p k a (i + 1) (Ta, m0) = ((putT (Tj, false) eb qo qo).1, true)) := Lib.hid (HS1.out.trans (hp_tf hv1 hv2))
         clear hv1 hv2
         go_wp2_with (first | (go_at_call 64; refine (rtHas_is c a ea qi true _ TV.out HN8.out HF8.out hq1 hq2 hq3 HV1.out).mono ?_; rintro e w3 ⟨rfl, hb3⟩; have ⟨hc3, hf3, hg3⟩ := bcell hb3) | (go_at_call 97; refine (rtput_is c qo eb qo false _ (TV.out.later hb3) HN8.out HF8.out hq4 hq5 hq6 HV2.out).mono ?_; rintro e w4 ⟨rfl, hk4, ht4⟩))
         exact ⟨⟨i + 1, true, _, by omega, by go_num, rfl, ((hkqU).call hb3).next hk4 (fun y hy => .inl hy), Lib.hid (ht4), HE⟩, by simp [intOf]; omega⟩
   · obtain rfl : i = nf := by omega
     have HSA : Hid (enteredT p k (a + 1) (T, false) = (Tj, m)) := by
       show _ = _
       have h9 := HSJ.out
       have h8 := HSI.out
       unfold enteredT at h9 ⊢
       rw [If.up, h9, HFL.out, h8]
     go_wp2_with fail
     exact ⟨⟨a + 1, m, Tj, by omega, by go_num, rfl, hkVq, TQ, HSA⟩, by simp [intOf]; omega⟩
 · obtain rfl : a = F := by omega
   go_wp2_with fail
   go_ret
   refine ⟨by rw [HSJ.out]; rfl, (keptWide HBwV.out (by simp)).next hkr (fun y hy => .inl hy), ?_⟩
   rw [HSJ.out]
   exact TR.out
end Go.Proofs.YtooejoajojanjaaGreatDoor
namespace Go.Df
open Go.RowKit
namespace If
open Sp
def doesX (p : Px) (T : Nat → Nat → Nat → Bool) (x : Nat) (b d : Int) : Prop := match p.kn with
 | none => T x b.toNat d.toNat = true
 | some L => (⟨b, d⟩ : Pr) ∈ endP p.ns L x
instance (p : Px) (T : Nat → Nat → Nat → Bool) (x : Nat) (b d : Int) : Decidable (doesX p T x b d) := by
 unfold doesX
 split <;> infer_instance
def retMX (p : Px) (k i j m : Nat) : Tm → Tm := up m fun m s => if doesX p s.1 (ge p.es k).a.toNat (gp (gf p.fl i) j).o (gp (gf p.fl k) m).i then throughT (ge p.es i).a.toNat (ge p.es k).b.toNat (gp (gf p.fl i) j).i.toNat (gp (gf p.fl k) m).o.toNat p.F.toNat s else s
def retJX (p : Px) (k i j : Nat) : Tm → Tm := up j fun j => retMX p k i j (gf p.fl k).length
def returnedX (p : Px) (k j : Nat) : Tm → Tm := up j fun i s => if retC p.toPb k i then retJX p k i (gf p.fl i).length s else s
def edgeX (p : Px) (k : Nat) (s : Tm) : Tm :=
 if (ge p.es k).k = 1 ∨ (ge p.es k).k = 5 then passedT p.toPb k p.F.toNat s else if (ge p.es k).k = 2 then (if p.kn = none then s else enteredT p.toPb k p.F.toNat s) else returnedX p k p.es.length s
def roundEX (p : Px) (j : Nat) : Tm → Tm := up j (edgeX p)
def roundX (p : Px) (T : Nat → Nat → Nat → Bool) : Tm := roundEX p p.es.length (seededT p.toPb p.sd.length (T, false))
theorem Lin.iteP {f : Tm → Tm} (hf : Lin f) (c : (Nat → Nat → Nat → Bool) → Prop) [∀ T, Decidable (c T)] : Lin fun s => if c s.1 then f s else s := fun T m => by
 dsimp only
 split
 · exact hf T m
 · simp
theorem retMX_lin (p : Px) (k i j m : Nat) : Lin (retMX p k i j m) := Lin.up (fun x => (through_lin _ _ _ _ _).iteP fun T => doesX p T (ge p.es k).a.toNat (gp (gf p.fl i) j).o (gp (gf p.fl k) x).i) m
theorem retJX_lin (p : Px) (k i j : Nat) : Lin (retJX p k i j) := Lin.up (fun _ => retMX_lin _ _ _ _ _) j
theorem returnedX_lin (p : Px) (k j : Nat) : Lin (returnedX p k j) := Lin.up (fun i => by
 by_cases h : retC p.toPb k i
 · simp only [if_pos h]; exact retJX_lin _ _ _ _
 · simp only [if_neg h]; exact Lin.id) j
section
variable {p : Px} (ho : OkX p)
include ho
theorem retMX_rl (s : Tm) {k i j m : Nat} (hk : k < p.es.length) (hm : m ≤ (gf p.fl k).length) : Rl p.toPb s (retMX p k i j m s) := Rl.up m fun x hx s => Rl.ite fun _ => through_rl s (ed_rng ho.ok hk).2 (pr_rng ho.ok hk (by omega)).2 (Nat.le_refl _)
theorem retJX_rl (s : Tm) {k i j : Nat} (hk : k < p.es.length) : Rl p.toPb s (retJX p k i j s) := Rl.up j fun _x _hx s => retMX_rl ho s hk (Nat.le_refl _)
theorem returnedX_rl (s : Tm) {k j : Nat} (hk : k < p.es.length) : Rl p.toPb s (returnedX p k j s) := Rl.up j fun _x _hx s => Rl.ite fun _ => retJX_rl ho s hk
theorem edgeX_rl (s : Tm) {k : Nat} (hk : k < p.es.length) : Rl p.toPb s (edgeX p k s) := by
 unfold edgeX
 split
 · exact passed_rl ho.ok s hk (Nat.le_refl _)
 · split
   · split
     · exact Rl.refl _ _
     · exact entered_rl ho.ok s hk
   · exact returnedX_rl ho s hk
theorem roundEX_rl (s : Tm) {j : Nat} (hj : j ≤ p.es.length) : Rl p.toPb s (roundEX p j s) := Rl.up j fun i hi s => edgeX_rl ho s (by omega)
theorem roundX_rl (T : Nat → Nat → Nat → Bool) : Rl p.toPb (T, false) (roundX p T) := (seeded_rl ho.ok _ (Nat.le_refl _)).trans (roundEX_rl ho _ (Nat.le_refl _))
end
def SndTX (p : Px) (s : Tm) : Prop := ∀ n a d, s.1 n a d = true → PEx p a n d
theorem SndTX.put {p : Px} {s : Tm} (h : SndTX p s) {n a d : Nat} (hp : PEx p a n d) : SndTX p (putT s n a d) := by
 unfold putT
 split
 · exact h
 · intro n' a' d' h'
   simp at h'
   rcases h' with h' | ⟨rfl, rfl, rfl⟩
   · exact h _ _ _ h'
   · exact hp
theorem SndTX.up {p : Px} {f : Nat → Tm → Tm} {s : Tm} (hs : SndTX p s) : ∀ n, (∀ i, i < n → ∀ s, SndTX p s → SndTX p (f i s)) → SndTX p (If.up n f s)
 | 0, _ => hs
 | n + 1, h => h n (by omega) _ (SndTX.up hs n (fun i hi => h i (by omega)))
theorem SndTX.ite {p : Px} {s t : Tm} {c : Prop} [Decidable c] (hs : SndTX p s) (h : c → SndTX p t) : SndTX p (if c then t else s) := by
 split
 · exact h ‹_›
 · exact hs
theorem roundX_snd {p : Px} (ho : OkX p) {T : Nat → Nat → Nat → Bool} (h : SndTX p (T, false)) : SndTX p (roundX p T) := by
 refine SndTX.up (SndTX.up h _ fun i hi s hs => SndTX.ite hs fun hc => hs.put ?_) _ fun k hk s hs => ?_
 · exact .seed (hs _ _ _ hc) (gd_mem hi)
 · unfold edgeX
   split
   · rename_i h1
     exact SndTX.up hs _ fun a ha s hs => SndTX.up hs _ fun i hi s hs => SndTX.ite hs fun hc => hs.put (.flow hk h1 (gp_mem hi) (hs _ _ _ hc))
   · split
     · rename_i h1
       split
       · exact hs
       · rename_i hne
         exact SndTX.up hs _ fun a ha s hs => SndTX.up hs _ fun i hi s hs => SndTX.ite hs fun hc => hs.put (.call hne hk h1 (gp_mem hi) (hs _ _ _ hc))
     · rename_i h1 h2
       have h3 := ho.ok.edge hk
       refine SndTX.up hs _ fun i hi s hs => SndTX.ite hs fun hc => SndTX.up hs _ fun j hj s hs => SndTX.up hs _ fun m hm s hs => SndTX.ite hs fun hd => SndTX.up (p := p) (s := s) hs _ fun a ha t ht => SndTX.ite ht fun he => ht.put ?_
       unfold doesX at hd
       cases hn : p.kn with
       | none =>
         rw [hn] at hd
         exact .ret hn hi hc.1 (gp_mem hj) hk (by omega) (gp_mem hm) hc.2.1 hc.2.2 (ht _ _ _ he) (hs _ _ _ hd)
       | some L =>
         rw [hn] at hd
         exact .retk hn hi hc.1 (gp_mem hj) hk (by omega) (gp_mem hm) hc.2.1 hc.2.2 hd (ht _ _ _ he)
theorem roundX_clo {p : Px} (ho : OkX p) {T : Nat → Nat → Nat → Bool} (hm : ∀ x ∈ p.ini, T x.1 x.2 x.2 = true) (hs : SndTX p (T, false)) (h : (roundX p T).2 = false) : CloX p fun a n d => T n a d = true := by
 have h1 : (seededT p.toPb p.sd.length (T, false)).2 = false := by
   have := (roundEX_rl ho (seededT p.toPb p.sd.length (T, false)) (Nat.le_refl _)).fl h
   unfold roundX at h
   rw [this] at h
   exact h
 have e1 : seededT p.toPb p.sd.length (T, false) = (T, false) := (seeded_rl ho.ok _ (Nat.le_refl _)).fl h1
 have h2 : (roundEX p p.es.length (T, false)).2 = false := by
   unfold roundX at h
   rw [e1] at h
   exact h
 have hE : ∀ k, k < p.es.length → edgeX p k (T, false) = (T, false) := up_fix _ (fun k hk s => edgeX_rl ho s hk) h2
 have rng : ∀ n a d, T n a d = true → a < p.F.toNat ∧ d < p.F.toNat := fun n a d hh => by
   have := (hs n a d hh).rng ho
   omega
 have hR : ∀ c, c < p.es.length → (ge p.es c).k = 2 → ∀ q ∈ gf p.fl c, ∀ r, r < p.es.length → ((ge p.es r).k = 3 ∨ (ge p.es r).k = 4) → ∀ s ∈ gf p.fl r, (ge p.es c).a = (ge p.es r).c → (gn p.ns (ge p.es c).b.toNat).f = (gn p.ns (ge p.es r).a.toNat).f →
     doesX p T (ge p.es r).a.toNat q.o s.i → ∀ a, T (ge p.es c).a.toNat a q.i.toNat = true → T (ge p.es r).b.toNat a s.o.toNat = true := by
   intro c hc hc2 q hq r hr hr2 t ht' e1 e2 hd a ht
   obtain ⟨j, hj, rfl⟩ := mem_gp hq
   obtain ⟨m, hm', rfl⟩ := mem_gp ht'
   have h3 := hE r hr
   unfold edgeX at h3
   rw [if_neg (by omega), if_neg (by omega)] at h3
   have h4 := up_fix _ (fun i hi s => Rl.ite fun _ => retJX_rl ho s hr) (show (returnedX p r p.es.length (T, false)).2 = false by rw [h3]) c hc
   have hcc : retC p.toPb r c := ⟨hc2, e1, e2⟩
   rw [if_pos hcc] at h4
   have h5 := up_fix _ (fun i hi s => retMX_rl ho s hr (Nat.le_refl _)) (show (retJX p r c (gf p.fl c).length (T, false)).2 = false by rw [h4]) j hj
   have h6 := up_fix _ (fun i hi s => Rl.ite fun _ => through_rl s (ed_rng ho.ok hr).2 (pr_rng ho.ok hr hi).2 (Nat.le_refl _)) (show (retMX p r c j (gf p.fl r).length (T, false)).2 = false by rw [h5]) m hm'
   rw [if_pos hd] at h6
   have h7 := up_fix _ (fun i hi s => Rl.ite fun _ => Rl.put (ed_rng ho.ok hr).2 hi (pr_rng ho.ok hr hm').2) (show (throughT (ge p.es c).a.toNat (ge p.es r).b.toNat (gp (gf p.fl c) j).i.toNat (gp (gf p.fl r) m).o.toNat p.F.toNat (T, false)).2 = false by rw [h6]) a (rng _ _ _ ht).1
   rw [if_pos ht] at h7
   exact put_fix rfl h7
 refine ⟨hm, fun x hx ht => ?_, fun k hk hk2 q hq a ht => ?_, fun hne k hk hk2 q hq a ht => ?_, ?_, ?_⟩
 · obtain ⟨i, hi, rfl⟩ := mem_gd hx
   have := up_fix _ (fun i hi s => Rl.ite fun _ => Rl.put (sd_rng ho.ok hi).1 (f_pos ho.ok) (sd_rng ho.ok hi).2) h1 i hi
   rw [if_pos ht] at this
   exact put_fix rfl this
 · obtain ⟨i, hi, rfl⟩ := mem_gp hq
   have h3 := hE k hk
   unfold edgeX at h3
   rw [if_pos hk2] at h3
   have h4 := up_fix _ (fun i hi s => passedR_rl ho.ok s hk hi (Nat.le_refl _)) (show (passedT p.toPb k p.F.toNat (T, false)).2 = false by rw [h3]) a (rng _ _ _ ht).1
   have h5 := up_fix _ (fun i hi s => Rl.ite fun _ => Rl.put (ed_rng ho.ok hk).2 (rng _ _ _ ht).1 (pr_rng ho.ok hk hi).2) (show (passedR p.toPb k a (gf p.fl k).length (T, false)).2 = false by rw [h4]) i hi
   rw [if_pos ht] at h5
   exact put_fix rfl h5
 · obtain ⟨i, hi, rfl⟩ := mem_gp hq
   have h3 := hE k hk
   unfold edgeX at h3
   rw [if_neg (by omega), if_pos hk2, if_neg hne] at h3
   have h4 := up_fix _ (fun i hi s => enteredR_rl ho.ok s hk (Nat.le_refl _)) (show (enteredT p.toPb k p.F.toNat (T, false)).2 = false by rw [h3]) a (rng _ _ _ ht).1
   have h5 := up_fix _ (fun i hi s => Rl.ite fun _ => Rl.put (ed_rng ho.ok hk).2 (pr_rng ho.ok hk hi).2 (pr_rng ho.ok hk hi).2) (show (enteredR p.toPb k a (gf p.fl k).length (T, false)).2 = false by rw [h4]) i hi
   rw [if_pos ht] at h5
   exact put_fix rfl h5
 · intro hn c hc hc2 q hq r hr hr2 t ht' e1 e2 a ht hd
   exact hR c hc hc2 q hq r hr hr2 t ht' e1 e2 (by unfold doesX; rw [hn]; exact hd) a ht
 · intro L hn c hc hc2 q hq r hr hr2 t ht' e1 e2 hd a ht
   exact hR c hc hc2 q hq r hr hr2 t ht' e1 e2 (by unfold doesX; rw [hn]; exact hd) a ht
theorem roundX_unh {p : Px} (ho : OkX p) {T : Nat → Nat → Nat → Bool} (h : (roundX p T).2 = true) : unhT p.toPb (roundX p T).1 < unhT p.toPb T := by
 have hr := roundX_rl ho T
 rcases hr.tr h with h1 | ⟨n, a, d, h1, h2, h3, h4, h5⟩
 · cases h1
 · refine countP_lt (y := (n, a, d)) (fun x hx => ?_) (by simpa using h4) (by simpa using h5) _ (mem_trip.2 ⟨h1, h2, h3⟩)
   simp at hx ⊢
   cases hh : T x.1 x.2.1 x.2.2 with
   | false => rfl
   | true => rw [hr.le _ _ _ hh] at hx; cases hx
end If
end Go.Df
