/- Texts: Vz Kuz Vs Kqz Zt Zu Vv. -/
import Derived.Test.YtooejoajojanjaaGreatDoorXSf27
import Derived.Test.YtooejoajojanjaaGreatDoorXSf12
import Derived.Test.YtooejoajojanjaaGreatDoorXSf23
import Derived.Test.YtooejoajojanjaaGreatDoorXSf14
import Derived.Test.YtooejoajojanjaaGreatDoorXSf28
import Derived.Test.YtooejoajojanjaaGreatDoorXSf20
import Derived.Test.YtooejoajojanjaaGreatDoorXSf05
import Derived.Test.YtooejoajojanjaaGreatDoorXSf25
import Derived.Test.YtooejoajojanjaaGreatDoorXSf13
import Derived.Test.YtooejoajojanjaaGreatDoorXSf07
import Derived.Test.YtooejoajojanjaaGreatDoorProg
import Derived.Shelf.SlIterI.Nil
import Derived.Shelf.SortM.Plain
import Derived.Shelf.SortM.SortNone
import Derived.Test.YtooejoajojanjaaGreatDoorXSf10
import Derived.Lib.SlKeysI
namespace Go.Df
open Go.RowKit
namespace If
open Sp
theorem SmC.at {w : World} {A : Option Addr} {n : Nat} {L : List Su} (h : SmC w A n L) (hn : 0 < n) : ∃ b o, A = some ⟨b, o, none⟩ ∧ b < w.heap.size := by
 obtain ⟨b, o, e, hl, -⟩ := h.mem hn
 exact ⟨b, o, e, hl⟩
end If
end Go.Df
namespace Go.Proofs.YtooejoajojanjaaGreatDoor
open Go.RowKit Go.Df Go.Df.If
attribute [local go_sem ↓] Go.wp_at_zero Go.wp_at_succ
theorem SuV.later {w w' : World} {L : List Su} {f : Int} {v : Value} (h : SuV w L f v) (hb : Below w.heap.size w w') : SuV w' L f v := by
 obtain ⟨fv, A, n, c, A', n', c', h1, h2, h3, h4, h5, h6, h7⟩ := h
 exact ⟨fv, A, n, c, A', n', c', h1, h2, h3, h4.later hb, h5.later hb, h6, h7⟩
def GetUse (p : Px) (w : World) (e : Ending) (w' : World) : Prop :=
 ∃ A1 m1 A2 m2, e = .returned (.tuple #[.agg #[.slice A1 p.ns.length m1, .slice A2 p.ns.length m2], .int .i64 0]) ∧ Bls w' A1 p.ns.length ((List.range p.ns.length).map (solRX p)) ∧ IntsR w' A2 p.ns.length ((List.range p.ns.length).map (solFX p)) ∧ Below w.heap.size w w'
end Go.Proofs.YtooejoajojanjaaGreatDoor
namespace Go.Df
open Go.RowKit
namespace If
def anyT (F : Nat) (T : Nat → Nat → Nat → Bool) (n y : Nat) : Bool := (List.range F).any fun a => T n a y
def tabL (F : Nat) (T : Nat → Nat → Nat → Bool) (n d : Nat) : List Int := ofNats ((List.range d).filter fun y => y != 0 && anyT F T n y)
def RwI (base : Nat) (ti : TypeId) (R : Nat → Option Addr × Nat × Nat) (L : Nat → List Int) (n : Nat) (w : World) : Prop :=
 ∀ x, x < n → Ints w (R x).1 (R x).2.1 (L x) ∧ (R x).2.1 ≤ 9223372036854775807 ∧ ∀ a, (R x).1 = some a → base ≤ a.block ∧ Tag w a.block ti
theorem RwI.kept {base : Nat} {ti : TypeId} {R : Nat → Option Addr × Nat × Nat} {L : Nat → List Int} {n : Nat} {X : List Nat} {w w' : World} (h : RwI base ti R L n w) (hk : Kept X w w') (hX : ∀ b, Tag w b ti → base ≤ b → b ∉ X) : RwI base ti R L n w' := fun x hx => by
 obtain ⟨h1, h2, h3⟩ := h x hx
 exact ⟨ints_keptT h1 hk (fun a ha => hX _ (h3 a ha).2 (h3 a ha).1), h2, fun a ha => ⟨(h3 a ha).1, (h3 a ha).2.same (hk.block _ (h3 a ha).2.lt (hX _ (h3 a ha).2 (h3 a ha).1))⟩⟩
def updK9 (f : Nat → Option Addr × Nat × Nat) (n : Nat) (x : Option Addr × Nat × Nat) : Nat → Option Addr × Nat × Nat := fun i => if i = n then x else f i
theorem RwI.snoc {base : Nat} {ti : TypeId} {R : Nat → Option Addr × Nat × Nat} {L : Nat → List Int} {n : Nat} {w : World} (h : RwI base ti R L n w) {A : Option Addr} {m c : Nat} (hA : Ints w A m (L n)) (hm : m ≤ 9223372036854775807) (ha : ∀ a, A = some a → base ≤ a.block ∧ Tag w a.block ti) : RwI base ti (updK9 R n (A, m, c)) L (n + 1) w := fun x hx => by
 unfold updK9
 by_cases e : x = n
 · subst e; rw [if_pos rfl]; exact ⟨hA, hm, ha⟩
 · rw [if_neg e]; exact h x (by omega)
end If
end Go.Df
namespace Go.Proofs.YtooejoajojanjaaGreatDoor
open Go.RowKit Go.Df Go.Df.If
attribute [local go_sem ↓] Go.wp_at_zero Go.wp_at_succ
end Go.Proofs.YtooejoajojanjaaGreatDoor
namespace Go.Df
open Go.RowKit
namespace If
end If
end Go.Df
namespace Go.Proofs.YtooejoajojanjaaGreatDoor
open Go.RowKit Go.Df Go.Df.If
attribute [local go_sem ↓] Go.wp_at_zero Go.wp_at_succ
set_option maxRecDepth 100000 in
set_option maxHeartbeats 4000000 in
theorem small35p_any (A1 A2 A3 A4 : Option Addr) (n1 c1 n2 c2 n3 c3 n4 c4 : Nat) (mn F : Int) (ls : List (List Pr)) (w : World) (hF : Flw w A3 n3 ls) :
   Calls Tryz.prog 22 #[.agg #[.slice A1 n1 c1, .slice A2 n2 c2, .int .i64 mn, .int .i64 F, .slice A3 n3 c3, .slice A4 n4 c4]] w fun e w' => (∃ b, e = .returned (.bool b) ∧ (b = true → n1 ≤ 40 ∧ n2 ≤ 80 ∧ F ≤ 8 ∧ n3 ≤ 80 ∧ n4 ≤ 20)) ∧ Below w.heap.size w w' := by
 have HF := Lib.hid hF
 clear hF
 by_cases t1 : 40 < n1
 · have d1 : decide ((40 : Int) < n1) = true := by simp; omega
   clear t1
   go_enter Tryz.func22, Tryz.ntmps22
   go_upto_region 1 with fail
   refine wp_named (fun W => ∃ b0, w.heap.size = b0 ∧ Blk W b0 [.slice A1 n1 c1, .slice A2 n2 c2, .int .i64 mn, .int .i64 F, .slice A3 n3 c3, .slice A4 n4 c4] ∧ Below w.heap.size w W) ⟨_, rfl, ?_, ?_⟩ ?_
   · exact kbn
   · go_grown
   rintro W ⟨b0, e0, B0, hB⟩
   rw [e0]
   have G0 : w.heap.size ≤ b0 := by omega
   clear e0
   have ⟨L0, C0, F0⟩ := B0
   go_wp2_with fail
   go_ret
   exact ⟨⟨false, rfl, fun h => by cases h⟩, hB⟩
 have d1 : decide ((40 : Int) < n1) = false := by simp; omega
 by_cases t2 : 80 < n2
 · have d2 : decide ((80 : Int) < n2) = true := by simp; omega
   clear t1 t2
   go_enter Tryz.func22, Tryz.ntmps22
   go_upto_region 1 with fail
   refine wp_named (fun W => ∃ b0, w.heap.size = b0 ∧ Blk W b0 [.slice A1 n1 c1, .slice A2 n2 c2, .int .i64 mn, .int .i64 F, .slice A3 n3 c3, .slice A4 n4 c4] ∧ Below w.heap.size w W) ⟨_, rfl, ?_, ?_⟩ ?_
   · exact kbn
   · go_grown
   rintro W ⟨b0, e0, B0, hB⟩
   rw [e0]
   have G0 : w.heap.size ≤ b0 := by omega
   clear e0
   have ⟨L0, C0, F0⟩ := B0
   go_wp2_with fail
   go_ret
   exact ⟨⟨false, rfl, fun h => by cases h⟩, hB⟩
 have d2 : decide ((80 : Int) < n2) = false := by simp; omega
 by_cases t3 : 8 < F
 · have d3 : decide ((8 : Int) < F) = true := by simpa using t3
   clear t1 t2 t3
   go_enter Tryz.func22, Tryz.ntmps22
   go_upto_region 1 with fail
   refine wp_named (fun W => ∃ b0, w.heap.size = b0 ∧ Blk W b0 [.slice A1 n1 c1, .slice A2 n2 c2, .int .i64 mn, .int .i64 F, .slice A3 n3 c3, .slice A4 n4 c4] ∧ Below w.heap.size w W) ⟨_, rfl, ?_, ?_⟩ ?_
   · exact kbn
   · go_grown
   rintro W ⟨b0, e0, B0, hB⟩
   rw [e0]
   have G0 : w.heap.size ≤ b0 := by omega
   clear e0
   have ⟨L0, C0, F0⟩ := B0
   go_wp2_with fail
   go_ret
   exact ⟨⟨false, rfl, fun h => by cases h⟩, hB⟩
 have d3 : decide ((8 : Int) < F) = false := by simpa using t3
 by_cases t4 : 80 < n3
 · have d4 : decide ((80 : Int) < n3) = true := by simp; omega
   clear t1 t2 t3 t4
   go_enter Tryz.func22, Tryz.ntmps22
   go_upto_region 1 with fail
   refine wp_named (fun W => ∃ b0, w.heap.size = b0 ∧ Blk W b0 [.slice A1 n1 c1, .slice A2 n2 c2, .int .i64 mn, .int .i64 F, .slice A3 n3 c3, .slice A4 n4 c4] ∧ Below w.heap.size w W) ⟨_, rfl, ?_, ?_⟩ ?_
   · exact kbn
   · go_grown
   rintro W ⟨b0, e0, B0, hB⟩
   rw [e0]
   have G0 : w.heap.size ≤ b0 := by omega
   clear e0
   have ⟨L0, C0, F0⟩ := B0
   go_wp2_with fail
   go_ret
   exact ⟨⟨false, rfl, fun h => by cases h⟩, hB⟩
 have d4 : decide ((80 : Int) < n3) = false := by simp; omega
 by_cases t5 : 20 < n4
 · have d5 : decide ((20 : Int) < n4) = true := by simp; omega
   clear t1 t2 t3 t4 t5
   go_enter Tryz.func22, Tryz.ntmps22
   go_upto_region 1 with fail
   refine wp_named (fun W => ∃ b0, w.heap.size = b0 ∧ Blk W b0 [.slice A1 n1 c1, .slice A2 n2 c2, .int .i64 mn, .int .i64 F, .slice A3 n3 c3, .slice A4 n4 c4] ∧ Below w.heap.size w W) ⟨_, rfl, ?_, ?_⟩ ?_
   · exact kbn
   · go_grown
   rintro W ⟨b0, e0, B0, hB⟩
   rw [e0]
   have G0 : w.heap.size ≤ b0 := by omega
   clear e0
   have ⟨L0, C0, F0⟩ := B0
   go_wp2_with fail
   go_ret
   exact ⟨⟨false, rfl, fun h => by cases h⟩, hB⟩
 have d5 : decide ((20 : Int) < n4) = false := by simp; omega
 have HOK : Hid (n1 ≤ 40 ∧ n2 ≤ 80 ∧ F ≤ 8 ∧ n3 ≤ 80 ∧ n4 ≤ 20) := by show _ ∧ _; omega
 have hn3 : n3 ≤ 80 := by omega
 clear t1 t2 t3 t4 t5
 go_enter Tryz.func22, Tryz.ntmps22
 go_upto_region 1 with fail
 refine wp_named (fun W => ∃ b0, w.heap.size = b0 ∧ Blk W b0 [.slice A1 n1 c1, .slice A2 n2 c2, .int .i64 mn, .int .i64 F, .slice A3 n3 c3, .slice A4 n4 c4] ∧ Below w.heap.size w W) ⟨_, rfl, ?_, ?_⟩ ?_
 · exact kbn
 · go_grown
 rintro W ⟨b0, e0, B0, hB⟩
 rw [e0]
 have G0 : w.heap.size ≤ b0 := by omega
 clear e0
 have ⟨L0, C0, F0⟩ := B0
 go_wp2_with fail
 go_loopw [3] (fun s3 wr => ∃ i : Nat, i ≤ n3 ∧ s3 = .int .i64 i ∧ Kept [] W wr) (fun s3 _ => n3 - (intOf s3).toNat)
 case atStart => exact ⟨0, Nat.zero_le _, rfl, Kept.refl _ _⟩
 case round =>
 clear C0 F0
 obtain ⟨i, hi, rfl, hkr⟩ := hrel
 have ⟨L0r, C0r, F0r⟩ := hkr.blk (by simp) B0
 have hBr : Below w.heap.size w wr := hkr.below hB hB.size (by simp)
 by_cases hlt : i < n3
 · obtain ⟨q1, o1, rfl, hl1, hc1⟩ := (HF.out.later hBr).2 (by omega)
   obtain ⟨Ai, ni, ci, r1, -, -⟩ := hc1 i hlt
   have hi9 : (i : Int) < (n3 : Int) := by omega
   clear hc1
   by_cases t6 : 40 < ni
   · have d6 : decide ((40 : Int) < ni) = true := by simp; omega
     clear t6
     go_wp2_with fail
     go_ret
     exact ⟨⟨false, rfl, fun h => by cases h⟩, hBr⟩
   · have d6 : decide ((40 : Int) < ni) = false := by simp; omega
     clear t6
     go_wp2_with fail
     exact ⟨⟨i + 1, by omega, by go_num, hkr⟩, by simp [intOf]; omega⟩
 · obtain rfl : i = n3 := by omega
   go_wp2_with fail
   go_ret
   exact ⟨⟨true, rfl, fun _ => HOK.out⟩, hBr⟩
end Go.Proofs.YtooejoajojanjaaGreatDoor
namespace Go.Proofs.YtooejoajojanjaaGreatDoor
open Go.RowKit Go.Maps Go.Sort Go.Shelf
def layKyr : Go.Shelf.Ren := ⟨fun | 7 => 103 | 10 => 142 | n => n, fun | 23 => 157 | 26 => 3 | 3 => 166 | 28 => 175 | 0 => 0 | 27 => 174 | 33 => 183 | 4 => 4 | n => n, fun | n => n⟩
theorem layKy : Go.Proofs.SlLaysZI.n7 Tryz.prog layKyr := {
 mixed := by kernel_rfl
 f7 := ⟨Tryz.f103.name, by decide, Tryz.func103.trans (congrArg some (by kernel_rfl))⟩
 f10 := ⟨Tryz.f142.name, by decide, Tryz.func142.trans (congrArg some (by kernel_rfl))⟩
 t0 := Tryz.underlying0
 a0 := Tryz.isAgg0
 z0 := Tryz.sizeOf0
 v0 := Tryz.zeroValue0
 t4 := Tryz.underlying4
 a4 := Tryz.isAgg4
 z4 := Tryz.sizeOf4
 v4 := Tryz.zeroValue4
 t23 := Tryz.underlying157
 a23 := Tryz.isAgg157
 z23 := Tryz.sizeOf157
 v23 := Tryz.zeroValue157
 t26 := Tryz.underlying3
 a26 := Tryz.isAgg3
 z26 := Tryz.sizeOf3
 v26 := Tryz.zeroValue3
 t27 := Tryz.underlying174
 a27 := Tryz.isAgg174
 z27 := Tryz.sizeOf174
 v27 := Tryz.zeroValue174
 t28 := Tryz.underlying175
 a28 := Tryz.isAgg175
 z28 := Tryz.sizeOf175
 v28 := Tryz.zeroValue175
 t33 := Tryz.underlying183
 a33 := Tryz.isAgg183
 z33 := Tryz.sizeOf183
 v33 := Tryz.zeroValue183 }
def laySdr : Go.Shelf.Ren := ⟨fun | 6 => 102 | 8 => 141 | 9 => 69 | 11 => 171 | 13 => 112 | 12 => 111 | 23 => 156 | 24 => 157 | 14 => 147 | 15 => 148 | 16 => 149 | 17 => 150 | 18 => 151 | 19 => 152 | 20 => 153 | 21 => 154 | 22 => 155 | 25 => 172 | 26 => 173 | 27 => 174 | 28 => 175 | 29 => 176 | 30 => 110 | 31 => 191 | n => n, fun | 26 => 3 | 28 => 175 | 24 => 31 | 0 => 0 | 3 => 3 | 37 => 186 | 48 => 242 | 50 => 225 | 4 => 4 | 40 => 236 | 39 => 235 | 45 => 190 | 5 => 5 | 9 => 9 | 51 => 256 | 55 => 260 | 57 => 269 | 58 => 177 | 33 => 183 | n => n, fun | n => n⟩
theorem laySd : Go.Proofs.SlLaysZI.n6 Tryz.prog laySdr := {
 mixed := by kernel_rfl
 f6 := ⟨Tryz.f102.name, by decide, Tryz.func102.trans (congrArg some (by kernel_rfl))⟩
 f8 := ⟨Tryz.f141.name, by decide, Tryz.func141.trans (congrArg some (by kernel_rfl))⟩
 f11 := ⟨Tryz.f171.name, by decide, Tryz.func171.trans (congrArg some (by kernel_rfl))⟩
 t0 := Tryz.underlying0
 a0 := Tryz.isAgg0
 z0 := Tryz.sizeOf0
 v0 := Tryz.zeroValue0
 t24 := Tryz.underlying31
 a24 := Tryz.isAgg31
 z24 := Tryz.sizeOf31
 v24 := Tryz.zeroValue31
 t26 := Tryz.underlying3
 a26 := Tryz.isAgg3
 z26 := Tryz.sizeOf3
 v26 := Tryz.zeroValue3
 t28 := Tryz.underlying175
 a28 := Tryz.isAgg175
 z28 := Tryz.sizeOf175
 v28 := Tryz.zeroValue175
 i26 := by kernel_rfl }
def laySttr : Go.Shelf.Ren := ⟨fun | 5 => 69 | 8 => 112 | 7 => 111 | 19 => 156 | 20 => 157 | 10 => 147 | 11 => 148 | 12 => 149 | 13 => 150 | 14 => 151 | 15 => 152 | 16 => 153 | 17 => 154 | 18 => 155 | 30 => 172 | 31 => 173 | 32 => 174 | 33 => 175 | 34 => 176 | 35 => 110 | 40 => 191 | n => n, fun | 23 => 31 | 25 => 3 | 3 => 3 | 32 => 186 | 22 => 31 | 0 => 0 | 44 => 242 | 46 => 225 | 4 => 4 | 36 => 236 | 35 => 235 | 41 => 190 | 5 => 5 | 9 => 9 | 53 => 256 | 57 => 260 | 63 => 269 | 64 => 177 | n => n, fun | n => n⟩
theorem laySt : Go.Proofs.SlLaysM.n5 Tryz.prog laySttr := {
 mixed := by kernel_rfl
 f5 := ⟨Tryz.f69.name, by decide, Tryz.func69.trans (congrArg some (by kernel_rfl))⟩
 f7 := ⟨Tryz.f111.name, by decide, Tryz.func111.trans (congrArg some (by kernel_rfl))⟩
 f8 := Tryz.func112.trans (congrArg some (by kernel_rfl))
 f10 := ⟨Tryz.f147.name, by decide, Tryz.func147.trans (congrArg some (by kernel_rfl))⟩
 f11 := ⟨Tryz.f148.name, by decide, Tryz.func148.trans (congrArg some (by kernel_rfl))⟩
 f12 := ⟨Tryz.f149.name, by decide, Tryz.func149.trans (congrArg some (by kernel_rfl))⟩
 f13 := ⟨Tryz.f150.name, by decide, Tryz.func150.trans (congrArg some (by kernel_rfl))⟩
 f14 := ⟨Tryz.f151.name, by decide, Tryz.func151.trans (congrArg some (by kernel_rfl))⟩
 f15 := ⟨Tryz.f152.name, by decide, Tryz.func152.trans (congrArg some (by kernel_rfl))⟩
 f16 := ⟨Tryz.f153.name, by decide, Tryz.func153.trans (congrArg some (by kernel_rfl))⟩
 f17 := ⟨Tryz.f154.name, by decide, Tryz.func154.trans (congrArg some (by kernel_rfl))⟩
 f18 := ⟨Tryz.f155.name, by decide, Tryz.func155.trans (congrArg some (by kernel_rfl))⟩
 f19 := Tryz.func156.trans (congrArg some (by kernel_rfl))
 f20 := Tryz.func157.trans (congrArg some (by kernel_rfl))
 f30 := ⟨Tryz.f172.name, by decide, Tryz.func172.trans (congrArg some (by kernel_rfl))⟩
 f31 := Tryz.func173.trans (congrArg some (by kernel_rfl))
 f32 := Tryz.func174.trans (congrArg some (by kernel_rfl))
 f33 := ⟨Tryz.f175.name, by decide, Tryz.func175.trans (congrArg some (by kernel_rfl))⟩
 f34 := ⟨Tryz.f176.name, by decide, Tryz.func176.trans (congrArg some (by kernel_rfl))⟩
 f35 := ⟨Tryz.f110.name, by decide, Tryz.func110.trans (congrArg some (by kernel_rfl))⟩
 f40 := ⟨Tryz.f191.name, by decide, Tryz.func191.trans (congrArg some (by kernel_rfl))⟩
 t0 := Tryz.underlying0
 a0 := Tryz.isAgg0
 z0 := Tryz.sizeOf0
 v0 := Tryz.zeroValue0
 t3 := Tryz.underlying3
 a3 := Tryz.isAgg3
 z3 := Tryz.sizeOf3
 v3 := Tryz.zeroValue3
 t4 := Tryz.underlying4
 a4 := Tryz.isAgg4
 z4 := Tryz.sizeOf4
 v4 := Tryz.zeroValue4
 t5 := Tryz.underlying5
 a5 := Tryz.isAgg5
 z5 := Tryz.sizeOf5
 v5 := Tryz.zeroValue5
 t9 := Tryz.underlying9
 a9 := Tryz.isAgg9
 z9 := Tryz.sizeOf9
 v9 := Tryz.zeroValue9
 t22 := Tryz.underlying31
 a22 := Tryz.isAgg31
 z22 := Tryz.sizeOf31
 v22 := Tryz.zeroValue31
 t23 := Tryz.underlying31
 a23 := Tryz.isAgg31
 z23 := Tryz.sizeOf31
 v23 := Tryz.zeroValue31
 t25 := Tryz.underlying3
 a25 := Tryz.isAgg3
 z25 := Tryz.sizeOf3
 v25 := Tryz.zeroValue3
 t32 := Tryz.underlying186
 a32 := Tryz.isAgg186
 z32 := Tryz.sizeOf186
 v32 := Tryz.zeroValue186
 t35 := Tryz.underlying235
 a35 := Tryz.isAgg235
 z35 := Tryz.sizeOf235
 v35 := Tryz.zeroValue235
 t36 := Tryz.underlying236
 a36 := Tryz.isAgg236
 z36 := Tryz.sizeOf236
 v36 := Tryz.zeroValue236
 t41 := Tryz.underlying190
 a41 := Tryz.isAgg190
 z41 := Tryz.sizeOf190
 v41 := Tryz.zeroValue190
 t44 := Tryz.underlying242
 a44 := Tryz.isAgg242
 z44 := Tryz.sizeOf242
 v44 := Tryz.zeroValue242
 t46 := Tryz.underlying225
 a46 := Tryz.isAgg225
 z46 := Tryz.sizeOf225
 v46 := Tryz.zeroValue225
 t53 := Tryz.underlying256
 a53 := Tryz.isAgg256
 z53 := Tryz.sizeOf256
 v53 := Tryz.zeroValue256
 t57 := Tryz.underlying260
 a57 := Tryz.isAgg260
 z57 := Tryz.sizeOf260
 v57 := Tryz.zeroValue260
 t63 := Tryz.underlying269
 a63 := Tryz.isAgg269
 z63 := Tryz.sizeOf269
 v63 := Tryz.zeroValue269
 t64 := Tryz.underlying177
 a64 := Tryz.isAgg177
 z64 := Tryz.sizeOf177
 v64 := Tryz.zeroValue177 }
end Go.Proofs.YtooejoajojanjaaGreatDoor
namespace Go.Df
open Go.RowKit
theorem own_baseK {w : World} {b b' : Nat} {e : TypeId} {k : Nat} {v : Value} {n : Nat} {xs : List Value} (h : w.ownsRow b e k v n xs) (hb : b' ≤ b) : w.ownsRow b' e k v n xs := by
 refine ⟨h.1, ?_⟩
 rcases h.2 with h2 | ⟨g, cap, cur, h1, h3, h4⟩
 · exact .inl h2
 · exact .inr ⟨g, cap, cur, h1, Nat.le_trans hb h3, h4⟩
namespace If
theorem has_intKeys {H : Type} {D : DataW H} {x : Int} (h : Maps.has D (.int .i64 x) = true) : x ∈ intKeys D := by
 cases D with
 | map es =>
   rw [Maps.has_eq, List.any_eq_true] at h
   obtain ⟨q, hq, hs⟩ := h
   show x ∈ es.map fun q => Go.intOf q.1
   rw [List.mem_map]
   refine ⟨q, hq, ?_⟩
   cases hk : q.1 <;> rw [hk] at hs <;> simp [Lit.sameKey] at hs
   simp [Go.intOf, hs]
 | _ => simp [Maps.has] at h
end If
end Go.Df
namespace Go.Proofs.YtooejoajojanjaaGreatDoor
open Go.RowKit Go.Df Go.Df.If Go.Shelf Go.Maps Go.Sort
attribute [local go_sem ↓] Go.wp_at_zero Go.wp_at_succ
theorem sortsA (m : Nat) : AnyZI.SortsIn Tryz.prog laySdr Fence.wide m :=
 ⟨fun blk off cap ss W hH hblk hsz => callsIn_wide.2 (AnyM.slices_Sort_int laySt blk off cap ss W hH hblk hsz),
  fun p cap W => callsIn_wide.2 (AnyM.slices_Sort_int_none laySt p cap W)⟩
theorem mkeys_any (mb : Option Nat) (W : World) : Calls Tryz.prog 103 #[.map mb] W fun e w' => e = .returned (.func (.func 142) #[] #[.pointer (some ⟨W.heap.size, 0, none⟩)]) ∧ w' = W.alloc (.cells #[.map mb] 157) :=
 (callsIn_wide (n := 5)).1 (AnyZI.keys_in layKy Fence.wide 5 trivial rfl mb W)
set_option maxRecDepth 100000 in
theorem msorted_any {H : Type} (b nn : Nat) (D0 : DataW H) (R : Value → Option (DataW H × List MemPlace)) (w : World) (hown : w.ownsMap Tryz.prog 3 R b nn D0) (hmax : Maps.size D0 ≤ maxLen) (hbytes : Maps.size D0 * 8 ≤ 140737488355328) :
   Calls Tryz.prog 102 #[.func (.func 142) #[] #[.pointer (some ⟨w.heap.size, 0, none⟩)]] (w.alloc (.cells #[.map (some b)] 157)) fun e w' => ∃ (v : Value) (ss : List Int), e = .returned v ∧ ss.Perm (intKeys D0) ∧
     w'.ownsRow (w.alloc (.cells #[.map (some b)] 157)).heap.size 3 1 v ss.length ((ss.mergeSort (fun x y => decide (x ≤ y))).map encZ) ∧ (v = .slice none 0 0 ↔ ss = []) ∧ Below (w.alloc (.cells #[.map (some b)] 157)).heap.size (w.alloc (.cells #[.map (some b)] 157)) w' := by
 have hbl := hown.lt
 have hseq : SeqGives Fence.wide 2 Tryz.prog 142 #[.pointer (some ⟨w.heap.size, 0, none⟩)] encZ (fun ss => ss.Perm (intKeys D0)) (Maps.size D0) (w.alloc (.cells #[.map (some b)] 157)) :=
   AnyZI.keys_gives (ρ := layKyr) { layKy with } Fence.wide _ trivial rfl (by omega) w.heap.size b nn D0 _ (by simp) (by simp) (by
     obtain ⟨es, clock, hb, Ft, hs, hD⟩ := hown
     exact ⟨es, clock, (Below.heap_alloc _ _ b hbl).trans hb, Ft, hs, hD⟩)
 have cS := AnyZI.sorted_in laySd Fence.wide 5 trivial trivial trivial trivial rfl (by omega) (sortsA _) (enters_of Tryz.func69 (by kernel_rfl) rfl) 142 #[.pointer (some ⟨w.heap.size, 0, none⟩)] trivial (enters_of Tryz.func142 (by kernel_rfl) rfl) _ _ hmax hbytes _ hseq
 change CallsIn _ _ Tryz.prog 102 _ _ _ at cS
 exact (callsIn_wide (n := 5)).1 cS
def GetKeys (w : World) (f : Value → Value) (e : Ending) (w' : World) : Prop := ∃ A k cc ks, e = .returned (.slice A k cc) ∧ Ints w' A k ks ∧ k ≤ 9223372036854775807 ∧ ks.Pairwise (· < ·) ∧ (∀ x ∈ ks, (Lit.int .i64 x).wf = true) ∧ (∀ x, (Lit.int .i64 x).wf = true → f (.int .i64 x) ≠ .slice none 0 0 → x ∈ ks) ∧ Below w.heap.size w w'
theorem nodup_intKeys {H : Type} {P : Program} {k : TypeId} {R : Value → Option (DataW H × List MemPlace)} {w : World} {b n : Nat} {D0 : DataW H} (hown : w.ownsMap P k R b n D0) (K : Keyed P k) (hk : P.underlying k = some (.int .i64)) : (intKeys D0).Nodup := by
 obtain ⟨es, hD, hpw, _⟩ := hown.entries K
 obtain ⟨es', hD', hko⟩ := hown.keysOf
 obtain rfl : es = es' := by rw [hD] at hD'; simpa using hD'
 subst hD
 show (es.map fun p => Go.intOf p.1).Nodup
 refine List.pairwise_map.2 (hpw.imp_of_mem fun {p q} hp' hq' hne e => hne ?_)
 obtain ⟨v1, hv1⟩ := hko p hp'
 obtain ⟨x1, _, hx1, _⟩ := Maps.keyOf_i64 hk hv1
 obtain ⟨v2, hv2⟩ := hko q hq'
 obtain ⟨x2, _, hx2, _⟩ := Maps.keyOf_i64 hk hv2
 rw [hx1, hx2] at e ⊢
 exact congrArg _ e
theorem sorted_asc {ss : List Int} (h : ss.Nodup) : (ss.mergeSort fun x y => decide (x ≤ y)).Pairwise (· < ·) := by
 have tr : ∀ a b c : Int, decide (a ≤ b) = true → decide (b ≤ c) = true → decide (a ≤ c) = true := fun a b c h1 h2 => by simp only [decide_eq_true_eq] at *; exact Int.le_trans h1 h2
 have tot : ∀ a b : Int, (decide (a ≤ b) || decide (b ≤ a)) = true := fun a b => by simp only [Bool.or_eq_true, decide_eq_true_eq]; exact Int.le_total a b
 have h1 := List.pairwise_mergeSort tr tot ss
 have h2 : (ss.mergeSort fun x y => decide (x ≤ y)).Nodup := (List.mergeSort_perm ss _).nodup_iff.2 h
 refine (List.Pairwise.and h1 h2).imp ?_
 rintro a b ⟨h3, h4⟩
 have h5 : a ≤ b := of_decide_eq_true h3
 omega
set_option maxRecDepth 100000 in
set_option maxHeartbeats 4000000 in
theorem pairs_any {p : Px} {K : Kn} {w0 : World} {b : Nat} {O : Nat → Prop} {G : Gh} {s : St} (w : World) (n : Nat) (hm : Mem p.toPb K w0 b O G w s) (hn : n < K.n1) (ho : OkX p) (hp : ∀ a m d, s.h m a d = true ↔ PEx p a m d) :
   Calls Tryz.prog 58 #[.pointer (some ⟨b, 0, none⟩), .int .i64 n] w fun e w' => ∃ A k c, e = .returned (.slice A k c) ∧ k ≤ c ∧ Prs w' A k (pairX p n) ∧ w'.ownsRow w.heap.size 72 2 (.slice A k c) k (prcells (pairX p n)) ∧ Below w.heap.size w w' := by
 obtain ⟨i0, hinf0, hz0, hz1, hz2⟩ := info_parts pairi_info
 have HM := Lib.hid hm
 have HO := Lib.hid ho
 have HPE := Lib.hid hp
 have hF8 : p.F.toNat ≤ 1024 := by have := ho.ok.f2; omega
 have HPL : Hid ((pairX p n).length ≤ 1048576) := Lib.hid (Nat.le_trans (pairX_len ho rfl n) (Nat.le_trans (Nat.mul_le_mul hF8 hF8) (by decide)))
 have hcb : G.hc n * 8 ≤ 140737488355328 := by
   have h1 := hm.hcb n hn
   have h2 := trip_len p.ns.length p.F.toNat
   have h3 := (sup_parts ho.ok.sup).1
   have h4 : p.ns.length * (p.F.toNat * p.F.toNat) ≤ 8192 * (1024 * 1024) := Nat.mul_le_mul h3 (Nat.mul_le_mul hF8 hF8)
   omega
 have B0 := hm.box
 unfold sbox at B0
 have ⟨LB, CB, FB⟩ := B0
 have hn' : (n : Int) < (K.n1 : Int) := by omega
 have HB0 := Lib.hid B0
 clear hm ho hp
 go_enter Tryz.func58, Tryz.ntmps58
 obtain ⟨bm, hbm⟩ := HM.out.hsm n hn
 have r9 : w.cell? ⟨K.hr, n, none⟩ = some (.map (some bm)) := by have := HM.out.held.cell hn; rwa [hbm] at this
 have ler : K.hr < w.heap.size := (HM.out.og _ HM.out.oh).2
 obtain ⟨D, hown, hat⟩ := HM.out.held.is n bm hn hbm
 have hsz := hown.size_le
 have HOWN := Lib.hid hown
 have HAT := Lib.hid hat
 have HBM := Lib.hid hbm
 clear hown hat hbm
 go_upto_region 3 with (first | (go_at_call 103; refine (mkeys_any _ _).mono ?_; rintro e w9 ⟨rfl, rfl⟩) | (go_at_call 102; refine (msorted_any bm (G.hc n) D tokElem _ HOWN.out (by unfold maxLen; omega) (by omega)).mono ?_; rintro e w1 ⟨v2, ss, rfl, hS, hrow, hnil, hb2⟩; have HS := Lib.hid hS; have HROW := Lib.hid hrow; clear hS hrow hnil; obtain ⟨A1, cc1, rfl, hi1, -⟩ := Ints.of_own HROW.out; have HI1 := Lib.hid hi1; clear hi1))
 obtain ⟨ks, hks⟩ : ∃ ks, ss.mergeSort (fun x y => decide (x ≤ y)) = ks := ⟨_, rfl⟩
 obtain ⟨k1, hkk1⟩ : ∃ k1, k1 = ss.length := ⟨_, rfl⟩
 rw [hks, ← hkk1] at HI1
 rw [← hkk1]
 have hk1 : k1 ≤ 9223372036854775807 := by
   rw [hkk1]
   rcases Nat.eq_zero_or_pos ss.length with h1 | h1
   · omega
   · obtain ⟨_, c', _, _, _, h2, h3, _⟩ := own_cellsT HROW.out h1
     unfold maxLen at h3
     omega
 have hperm : ∀ x, x ∈ ks ↔ x ∈ intKeys D := fun x => by rw [← hks]; exact ((List.mergeSort_perm ss _).mem_iff).trans HS.out.mem_iff
 have HASC : Hid (ks.Pairwise (· < ·)) := Lib.hid (by rw [← hks]; exact sorted_asc (HS.out.nodup_iff.2 (nodup_intKeys HOWN.out Tryz.lawInt Tryz.underlying3)))
 have HWF : Hid (∀ x ∈ ks, (Lit.int .i64 x).wf = true) := fun x hx => intKeys_wf HOWN.out Tryz.underlying3 x ((hperm x).1 hx)
 have HIN : Hid (∀ x, (Lit.int .i64 x).wf = true → G.hv n (.int .i64 x) ≠ .slice none 0 0 → x ∈ ks) := fun x hx h => (hperm x).2 (has_intKeys (by
   cases hh : Maps.has D (.int .i64 x) with
   | true => rfl
   | false =>
     have h3 := (HAT.out (.int .i64 x) (.int .i64 x) (Tryz.keyInt x hx)).1
     rw [Maps.atKey_of_not_has hh] at h3
     injection h3 with h3
     exact absurd h3.symm h))
 have hb1 : Below w.heap.size w w1 := ((Below.refl _ w).alloc (Nat.le_refl _) _).trans (hb2.mono (by simp))
 clear hperm hks hkk1 HS HROW HOWN HAT hb2 hsz r9
 have hkw1 : Kept [] w w1 := (Kept.refl _ _).call hb1
 have HKL : Hid (ks.length = k1) := Lib.hid HI1.out.1
 have HALL : Hid (pairsBy ks (keyX p n) = pairX p n) := Lib.hid (pairX_keyF HO.out HASC.out (fun a d h => by
   have h1 := (HPE.out a n d).2 h
   have hr := h.rng HO.out
   refine HIN.out _ (WalkArith.wf_i64 (by omega)) fun h2 => ?_
   obtain ⟨A', n', c', l', e1, e2, -, -, -, e3⟩ := HM.out.hbits n a hn
   rw [h2] at e1
   injection e1 with e4 e5 e6
   subst e5
   have h3 : l' = [] := List.eq_nil_of_length_eq_zero e2.1
   subst h3
   rw [← e3, hasB_nil] at h1
   cases h1))
 have B1 := hkw1.blk (by simp) HB0.out
 have ⟨LB1, CB1, FB1⟩ := B1
 have HB1 := Lib.hid B1
 clear CB FB B1
 go_wp2_with fail
 go_loopw [5, 20] (fun s5 s20 wr => ∃ (i : Nat) (A : Option Addr) (k c : Nat), i ≤ k1 ∧ s20 = .int .i64 i ∧ s5 = .slice A k c ∧ Kept [] w1 wr ∧ Hid ((pairsBy (ks.take i) (keyX p n)).length = k) ∧ Hid (wr.ownsRow w1.heap.size 72 2 (.slice A k c) k (prcells (pairsBy (ks.take i) (keyX p n))))) (fun _ s20 _ => k1 - (intOf s20).toNat)
 case atStart => exact ⟨0, none, 0, 0, Nat.zero_le _, rfl, rfl, Kept.refl _ _, Lib.hid rfl, Lib.hid (World.ownsRow_nil _ _ _ _)⟩
 case round =>
 clear CB1 FB1
 obtain ⟨i, A, k, c, hi, rfl, rfl, hkr, HK, OWN⟩ := hrel
 have BR := hkr.blk (by simp) HB1.out
 have ⟨LR, CR, FR⟩ := BR
 have HBR := Lib.hid BR
 have hkwr : Kept [] w wr := keptTrans hkw1 hkr
 by_cases hlt : i < k1
 case neg =>
   obtain rfl : i = k1 := by omega
   have HTK : Hid (ks.take i = ks) := Lib.hid (List.take_of_length_le (by rw [HKL.out]; exact Nat.le_refl _))
   rw [HTK.out, HALL.out] at HK OWN
   clear hlt
   go_wp2_with fail
   go_ret
   obtain ⟨h1, h2⟩ := Prs.own OWN.out HK.out
   exact ⟨A, k, c, rfl, h2, h1, own_baseK OWN.out hkw1.size, hkwr.toBelow⟩
 obtain ⟨x, hx⟩ : ∃ x, ks[i]? = some x := ⟨_, List.getElem?_eq_getElem (by rw [HKL.out]; exact hlt)⟩
 have hmem := List.mem_of_getElem? hx
 have HWX := Lib.hid (HWF.out x hmem)
 have hpre := pairsBy_pre (f := keyX p n) hx
 rw [HALL.out, HK.out] at hpre
 have HSN := Lib.hid (pairsBy_snoc (f := keyX p n) hx)
 obtain ⟨fl, hfl⟩ : ∃ fl, keyX p n x = fl := ⟨_, rfl⟩
 rw [hfl] at hpre
 have HFL := Lib.hid hfl
 have hfl9 : fl.length ≤ 1024 := by rw [← hfl]; exact keyX_len HO.out n x
 have hkb : k + fl.length ≤ 1048576 := Nat.le_trans hpre HPL.out
 obtain ⟨b1, o1, rfl, hl1, hc1⟩ := (HI1.out.kept hkr).2 (by omega)
 have r1 := hc1 i hlt
 have ex : gi ks i = x := by rw [gi_lt (by rw [HKL.out]; exact hlt)]; rw [List.getElem?_eq_getElem (by rw [HKL.out]; exact hlt)] at hx; exact Option.some.inj hx
 rw [ex] at r1
 have hi9 : (i : Int) < (k1 : Int) := by omega
 have hMr := HM.out.call hkwr.toBelow
 obtain ⟨Av, nv, cv, lv, hev, hbv, hnv, hel⟩ : ∃ Av nv cv lv, G.hv n (.int .i64 x) = .slice Av nv cv ∧ Bts wr Av nv lv ∧ nv ≤ 1024 ∧ ofNats (elemsB lv (nv * 64)) = fl := by
   by_cases hx0 : x < 0
   · refine ⟨none, 0, 0, [], HM.out.hneg n x hn hx0, Bts.nil _, by omega, ?_⟩
     rw [← hfl]
     unfold keyX
     rw [if_pos hx0]
     rfl
   · obtain ⟨a, rfl⟩ := Int.eq_ofNat_of_zero_le (show 0 ≤ x by omega)
     obtain ⟨A', n', c', l', e1, e2, e3, -, -, e4⟩ := hMr.hbits n a hn
     refine ⟨A', n', c', l', e1, e2, e3, ?_⟩
     rw [← e2.1, keyX_bits HO.out (fun y => by rw [e4 y]; exact HPE.out a n y)]
     exact hfl
 have HEV := Lib.hid hev
 have HBV := Lib.hid hbv
 have HEL := Lib.hid hel
 have HMR := Lib.hid hMr
 clear hc1 hx hmem hfl ex hev hbv hel hMr hpre
 have hrun : (Instr.lookup 157 (.map (some bm)) (.int .i64 x) false).run Tryz.prog wr = .ok (.slice Av nv cv) wr := by
   have := (HMR.out.held.is n bm hn HBM.out).look Tryz.lawInt Tryz.mapIB (Tryz.zeroBits wr) (Tryz.keyInt x HWX.out)
   rwa [HEV.out] at this
 have r9 : wr.cell? ⟨K.hr, n, none⟩ = some (.map (some bm)) := by have := HMR.out.held.cell hn; rwa [HBM.out] at this
 have lhr : K.hr < wr.heap.size := (HMR.out.og _ HMR.out.oh).2
 go_upto_region 6 with (go_at_call 95; refine (blist_any Av nv cv lv _ HBV.out hnv).mono ?_; rintro e w3 ⟨A3, n3, c3, rfl, hi3, hfr3, hb3⟩; rw [HEL.out] at hi3; have HI3 := Lib.hid hi3; have HFR3 := Lib.hid hfr3; clear hi3 hfr3)
 have hk3 : Kept [] wr w3 := (Kept.refl [] wr).call hb3
 have hk13 : Kept [] w1 w3 := keptTrans hkr hk3
 have HL3 : Hid (fl.length = n3) := Lib.hid HI3.out.1.1
 have OW3 := Lib.hid (own_keptT (X := []) OWN.out hk3 (by simp))
 have HX : Hid (∀ y ∈ (Value.slice A k c).ownBlock.toList, w1.heap.size ≤ y ∧ y < wr.heap.size) := Lib.hid (fun y hy => ⟨own_ge OWN.out (by simpa using hy), own_lt2 OWN.out (by simpa using hy)⟩)
 have hbw1 : b < w1.heap.size := HB1.out.1
 have B3 := hk3.blk (by simp) HBR.out
 have ⟨L3, C3, F3⟩ := B3
 have HB3 := Lib.hid B3
 have hn39 : n3 ≤ 1024 := by have := HL3.out; omega
 clear CR FR r1 B3 r9 hrun
 go_wp2_with fail
 go_loopw [5, 35] (fun s5 s35 wz => ∃ (j : Nat) (A' : Option Addr) (k' c' : Nat), j ≤ n3 ∧ s35 = .int .i64 j ∧ s5 = .slice A' k' c' ∧ Kept (Value.slice A k c).ownBlock.toList w3 wz ∧ Hid (k' = k + j) ∧ Hid (∀ y, (Value.slice A' k' c').ownBlock = some y → y ∈ (Value.slice A k c).ownBlock.toList ∨ w3.heap.size ≤ y) ∧ Hid (wz.ownsRow w1.heap.size 72 2 (.slice A' k' c') k' (prcells (pairsBy (ks.take i) (keyX p n) ++ (fl.take j).map fun d => ⟨x, d⟩)))) (fun _ s35 _ => n3 - (intOf s35).toNat)
 case atStart => exact ⟨0, A, k, c, Nat.zero_le _, rfl, rfl, Kept.refl _ _, Lib.hid rfl, Lib.hid (fun y hy => .inl (by simpa using hy)), Lib.hid (by simpa using OW3.out)⟩
 case round =>
 clear C3 F3
 rename World => wz
 obtain ⟨j, A', k', c', hj, rfl, rfl, hkz, HKJ, HOX, OWZ⟩ := hrel
 have BZ := hkz.blk (fun h => by have := (HX.out b h).1; omega) HB3.out
 have ⟨LZ, CZ, FZ⟩ := BZ
 have hk1z : Kept [] w1 wz := kept_fresh hk13 hkz (fun y hy => (HX.out y hy).1)
 by_cases hlt2 : j < n3
 case neg =>
   obtain rfl : j = n3 := by omega
   have HTK : Hid (fl.take j = fl) := Lib.hid (List.take_of_length_le (by rw [HL3.out]; exact Nat.le_refl _))
   rw [HTK.out] at OWZ
   have HSN2 : Hid (pairsBy (ks.take (i + 1)) (keyX p n) = pairsBy (ks.take i) (keyX p n) ++ fl.map fun d => ⟨x, d⟩) := Lib.hid (by rw [HSN.out, HFL.out])
   have HFL2 : Hid (fl.length = j) := HL3
   clear hlt2
   go_wp2_with fail
   exact ⟨⟨i + 1, A', k', c', by omega, by go_num, rfl, hk1z, by rw [HSN2.out]; exact Lib.hid (by rw [List.length_append, List.length_map, HK.out, HFL2.out, HKJ.out]), by rw [HSN2.out]; exact OWZ⟩, by simp [intOf]; omega⟩
 obtain ⟨b3, o3, rfl, hl3, hc3⟩ := (HI3.out.keptX hkz (fun _ a ha h => by have h1 := (HFR3.out a ha).1; have h2 := (HX.out _ h).2; omega)).1.2 (by omega)
 obtain ⟨d, hd⟩ : ∃ d, gi fl j = d := ⟨_, rfl⟩
 have r3 := hc3 j hlt2
 rw [hd] at r3
 have hfj : fl[j]? = some d := by rw [List.getElem?_eq_getElem (by rw [HL3.out]; exact hlt2), ← hd, gi_lt (by rw [HL3.out]; exact hlt2)]
 have HSN3 : Hid (prcells (pairsBy (ks.take i) (keyX p n) ++ (fl.take j).map fun d => ⟨x, d⟩) ++ [.int .i64 x, .int .i64 d] = prcells (pairsBy (ks.take i) (keyX p n) ++ (fl.take (j + 1)).map fun d => ⟨x, d⟩)) := Lib.hid (by
   rw [take_snocN hfj, List.map_append, ← List.append_assoc]
   exact prcells_snoc _ ⟨x, d⟩)
 have hj9 : (j : Int) < (n3 : Int) := by omega
 have HXZ : Hid (∀ y ∈ (Value.slice A' k' c').ownBlock.toList, w1.heap.size ≤ y) := (fun y hy => own_ge OWZ.out (by simpa using hy))
 have hkz9 : k' + 1 ≤ 1048576 := by have := HL3.out; have := HKJ.out; omega
 have hs1z := hk1z.size
 clear hc3 hd hfj
 go_wp2_with (at_builtin; refine wpList_append_rd _ rfl _ _ 28 rfl w1.heap.size 72 i0 (.agg #[.int .i64 0, .int .i64 0]) 2 16 Tryz.underlying28 hinf0 hz0 hz1 hz2 rfl (by decide) (.slice A' k' c') k' _ rfl (own_keptT (X := []) OWZ.out ((Kept.refl _ _).alloc _) (by simp)) (some ⟨wz.heap.size, 0, none⟩) 1 1 [.int .i64 x, .int .i64 d] rfl (new2T _ _ _ _ _ rfl) (fun h => by cases h) (by intro u hu; simp at hu; rcases hu with rfl | rfl <;> rfl) (k' + 1) rfl _ HSN3.out (by unfold maxLen; omega) (by omega) (by simp; omega) ?_; intro A8 c8 w8 hown8 hk8 hat8; have hk9 := Lib.hid ((hkz.alloc (.cells #[.int .i64 x, .int .i64 d] 72)).next hk8 (fun y hy => HOX.out y (by simpa using hy))); have HO8 := Lib.hid hown8; have HAT8 := Lib.hid hat8; clear hown8 hk8 hat8)
 exact ⟨⟨j + 1, A8, k' + 1, c8, by omega, by go_num, rfl, hk9.out, Lib.hid (by have := HKJ.out; omega), Lib.hid (fun y hy => by
   rcases HAT8.out y hy with h1 | h1
   · exact HOX.out y h1
   · right; have := hkz.size; rw [h1]; simp; omega), HO8⟩, by simp [intOf]; omega⟩
end Go.Proofs.YtooejoajojanjaaGreatDoor
namespace Go.Proofs.YtooejoajojanjaaGreatDoor
open Go.RowKit Go.Df Go.Df.If
attribute [local go_sem ↓] Go.wp_at_zero Go.wp_at_succ
set_option maxRecDepth 100000 in
set_option maxHeartbeats 40000000 in
theorem pfull_ok {p : Px} (A1 A2 A3 A4 : Option Addr) (n1 c1 n2 c2 n3 c3 n4 c4 mN F : Nat) (w : World) (hkn : p.kn = none) (hini : p.ini = iniI p.ns F p.ns.length) (ho : OkX p) (hmn : p.mn = mN) (hF : p.F = F) (hF9 : F ≤ 90) (hnd : Nds w A1 n1 p.ns) (hed : Eds w A2 n2 p.es) (hfl : Flw w A3 n3 p.fl) (hsd : Sds w A4 n4 p.sd) (hn4 : n4 ≤ 1000000) (hwn : ∀ j, j < n1 → (Lit.int .i64 (gn p.ns j).f).wf = true) (hwe : ∀ j, j < n2 → (Lit.int .i64 (ge p.es j).a).wf = true ∧ (Lit.int .i64 (ge p.es j).b).wf = true) (hpe : pbErr ⟨p.ns, p.es, (mN : Int), (F : Int), p.fl, p.sd⟩ = 0) :
   Calls Tryz.prog 26 #[.agg #[.slice A1 n1 c1, .slice A2 n2 c2, .int .i64 mN, .int .i64 (F : Nat), .slice A3 n3 c3, .slice A4 n4 c4]] w (GetFul w (fulI p p.ns.length) 0) := by
 obtain ⟨i1, hj, hy0, hy1, hy2⟩ := info_parts sumf_info
 have hN2 : n1 ≤ 8192 := by have := (sup_parts ho.ok.sup).1; have := hnd.1; omega
 have HKN := Lib.hid hkn
 have HINI := Lib.hid hini
 have HOX := Lib.hid ho
 have HMN := Lib.hid hmn
 have HF := Lib.hid hF
 have HND := Lib.hid hnd
 have HED := Lib.hid hed
 have HFL := Lib.hid hfl
 have HSD := Lib.hid hsd
 have HWN := Lib.hid hwn
 have HWE := Lib.hid hwe
 have HPB := Lib.hid hpe
 have HFN : Hid (p.F.toNat = F) := Lib.hid (by rw [hF]; rfl)
 clear hkn hini ho hmn hF hnd hed hfl hsd hwn hwe hpe
 go_enter Tryz.func26, Tryz.ntmps26
 go_upto_region 1 with fail
 refine wp_named (fun W => ∃ b0, w.heap.size = b0 ∧ Blk W b0 [.slice A1 n1 c1, .slice A2 n2 c2, .int .i64 mN, .int .i64 (F : Nat), .slice A3 n3 c3, .slice A4 n4 c4] ∧ Below w.heap.size w W) ⟨_, rfl, ?_, ?_⟩ ?_
 · exact kbn
 · go_grown
 rintro W ⟨b0, e0, B0, hB⟩
 rw [e0]
 have G0 : w.heap.size ≤ b0 := by omega
 clear e0
 have ⟨L0, C0, F0⟩ := B0
 have hkW : Kept [] w W := (Kept.refl _ _).call hB
 go_upto_region 2 with (go_at_call 49; refine (ifdsck_any A1 A2 A3 A4 n1 c1 n2 c2 n3 c3 n4 c4 mN F p.ns p.es p.fl p.sd _ (HND.out.later hkW.toBelow) (HED.out.later hkW.toBelow) (HFL.out.later hkW.toBelow) (HSD.out.later hkW.toBelow) (by omega) HWN.out HWE.out).mono ?_; rw [HPB.out]; rintro e w1 ⟨rfl, hb1⟩)
 have hkW1 : Kept [] W w1 := (Kept.refl _ _).call hb1
 have hkw1 : Kept [] w w1 := keptTrans hkW hkW1
 have B01 := Lib.hid (hkW1.blk (by simp) B0)
 have ⟨L01, C01, F01⟩ := B01.out
 clear C0 F0
 go_upto_region 5 with (go_at_call 50; refine (newSolver_any (p := p.toPb) none A1 A2 A3 A4 n1 c1 n2 c2 n3 c3 n4 c4 mN F _ HMN.out HF.out (HND.out.later hkw1.toBelow) (HED.out.later hkw1.toBelow) (HFL.out.later hkw1.toBelow) (HSD.out.later hkw1.toBelow) HOX.out.ok hn4).mono ?_; rintro e w2 ⟨K, g, O, G, rfl, hkv, hI, hM⟩)
 have HKV := Lib.hid hkv
 have HI := Lib.hid hI
 have M2 := Lib.hid hM
 have hK1 : K.n1 = n1 := by have h1 := hI.nd.1; have h2 := HND.out.1; omega
 have ⟨L02, C02, F02⟩ := B01.out.later hM.low
 clear C01 F01 hkv hI hM
 go_wp2_with fail
 go_loopw [25] (fun s25 wr => ∃ (i : Nat) (O' : Nat → Prop) (G' : Gh), i ≤ n1 ∧ s25 = .int .i64 i ∧ Hid (Mem p.toPb K w1 g O' G' wr (initS (iniI p.ns F i) noSt))) (fun s25 _ => n1 - (intOf s25).toNat)
 case atStart => exact ⟨0, O, G, Nat.zero_le _, rfl, M2⟩
 case round =>
 clear C02 F02 M2
 obtain ⟨i, O1, G1, hi, rfl, MR⟩ := hrel
 have ⟨L0r, C0r, F0r⟩ := B01.out.later MR.out.low
 have hlow : Below w.heap.size w wr := hkw1.toBelow.trans (MR.out.low.mono hkw1.size)
 by_cases hlt : i < n1
 case pos =>
   obtain ⟨b1, o1, e1, hl1, hc1⟩ := HND.out.2 (by omega)
   obtain ⟨r1, r2, r3⟩ := hc1 i hlt
   subst e1
   obtain ⟨nf, hnf⟩ : ∃ y, (gn p.ns i).f = y := ⟨_, rfl⟩
   obtain ⟨nk, hnk⟩ : ∃ y, (gn p.ns i).k = y := ⟨_, rfl⟩
   obtain ⟨ni, hni⟩ : ∃ y, (gn p.ns i).i = y := ⟨_, rfl⟩
   rw [hnf] at r1
   rw [hnk] at r2
   rw [hni] at r3
   replace r1 := (hlow.cell (p := ⟨b1, _, none⟩) hl1).trans r1
   replace r2 := (hlow.cell (p := ⟨b1, _, none⟩) hl1).trans r2
   replace r3 := (hlow.cell (p := ⟨b1, _, none⟩) hl1).trans r3
   have hl1r : b1 < wr.heap.size := Nat.lt_of_lt_of_le hl1 hlow.size
   have HNK := Lib.hid hnk
   have HNF := Lib.hid hnf
   have hip : i < p.ns.length := by rw [HND.out.1]; exact hlt
   have hi9 : (i : Int) < (n1 : Int) := by omega
   clear hc1 hnf hnk hni
   go_upto_region 8 with fail
   refine wp_named (fun X => ∃ y, wr.heap.size = y ∧ Blk X y [.int .i64 nf, .int .i64 nk, .int .i64 ni] ∧ Kept [] wr X) ⟨_, rfl, Blk.new _ _ _ _ rfl, (Kept.refl _ _).alloc _⟩ ?_
   rintro V ⟨y, ey, By, hkV⟩
   rw [ey]
   have ⟨Ly, Cy, Fy⟩ := By
   have MV := Lib.hid (MR.out.call hkV.toBelow)
   have ⟨L0v, C0v, F0v⟩ := B01.out.later MV.out.low
   clear C0r F0r r1 r2 r3 ey MR
   by_cases h1 : nk = 1
   case neg =>
     have h1' : (nk != 1) = true := by simpa using h1
     have HS2 : Hid (iniI p.ns F (i + 1) = iniI p.ns F i) := Lib.hid (iniI_no (by rw [HNK.out]; exact h1))
     clear h1
     go_wp2_with fail
     exact ⟨⟨i + 1, O1, G1, by omega, by go_num, by rw [HS2.out]; exact MV⟩, by simp [intOf]; omega⟩
   subst h1
   have HS2 : Hid (iniI p.ns F (i + 1) = iniI p.ns F i ++ (List.range F).map fun a => (i, a)) := Lib.hid (iniI_yes HNK.out)
   go_wp2_with fail
   go_loopw [35] (fun s35 wq => ∃ (d : Nat) (O' : Nat → Prop) (G' : Gh), d ≤ F ∧ s35 = .int .i64 d ∧ Hid (Mem p.toPb K w1 g O' G' wq (initS (iniI p.ns F i ++ (List.range d).map fun a => (i, a)) noSt))) (fun s35 _ => F - (intOf s35).toNat)
   case atStart => exact ⟨0, O1, G1, Nat.zero_le _, rfl, by simpa using MV⟩
   case round =>
   rename World => wq
   clear C0v F0v Cy Fy MV
   obtain ⟨d, O2, G2, hd, rfl, MQ⟩ := hrel
   by_cases hld : d < F
   case neg =>
     obtain rfl : d = F := by omega
     go_wp2_with fail
     exact ⟨⟨i + 1, O2, G2, by omega, by go_num, by rw [HS2.out]; exact MQ⟩, by simp [intOf]; omega⟩
   have HWQ : Hid (Wf p.toPb (initS (iniI p.ns F i ++ (List.range d).map fun a => (i, a)) noSt)) := Lib.hid (initS_wf HOX.out (fun x hx => by
     rw [HINI.out]
     refine iniI_mem.2 ?_
     rcases List.mem_append.1 hx with h1 | h1
     · have := iniI_mem.1 h1; exact ⟨by omega, this.2⟩
     · obtain ⟨a, ha, rfl⟩ := List.mem_map.1 h1
       exact ⟨hip, HNK.out, by have := List.mem_range.1 ha; dsimp only; omega⟩))
   have HST : Hid ((initS (iniI p.ns F i ++ (List.range d).map fun a => (i, a)) noSt).add i d d = initS (iniI p.ns F i ++ (List.range (d + 1)).map fun a => (i, a)) noSt) := Lib.hid (by
     rw [List.range_succ, List.map_append, ← List.append_assoc]
     exact (initS_snoc _ (i, d) _).symm)
   have hd9 : (d : Int) < (F : Int) := by omega
   have hdF : d < p.F.toNat := by rw [HFN.out]; exact hld
   go_wp2_with (go_at_call 51; refine (add_any _ i d d HI.out HOX.out.ok HWQ.out MQ.out hip hdF hdF).mono ?_; intro e w9 hG9; obtain ⟨O9, G9, rfl, M9, F9⟩ := hG9)
   exact ⟨⟨d + 1, O9, G9, by omega, by go_num, Lib.hid (M9.eq HST.out)⟩, by simp [intOf]; omega⟩
 obtain rfl : n1 = i := by omega
 have HINV : Hid (InvX p 0 [] (initS (iniI p.ns F n1) noSt)) := Lib.hid (by
   have h1 := initX_inv HOX.out
   rw [HINI.out, HND.out.1] at h1
   exact h1)
 have HKX : Hid (KnX p K w1 O1 wr) := Lib.hid ⟨fun _ => HKV.out, fun h => absurd HKN.out h, fun L hL => by rw [HKN.out] at hL; cases hL⟩
 clear hlt hi
 go_upto_region 16 with (go_at_call 52; refine (run_any _ HI.out HOX.out MR.out HKX.out HINV.out).mono ?_; rintro e w3 ⟨O3, G3, s3, rfl, hM3, hpe3, hwf3, hfx3⟩)
 have M3 := Lib.hid hM3
 have HPE := Lib.hid hpe3
 have ⟨L03, C03, F03⟩ := B01.out.later hM3.low
 have hlow3 : Below w.heap.size w w3 := hkw1.toBelow.trans (hM3.low.mono hkw1.size)
 clear C0r F0r hM3 hpe3 hwf3 hfx3 MR HINV HKX
 go_wp2_with fail
 go_loopw [9, 51] (fun s9 s51 wr => ∃ (x : Nat) (A : Option Addr) (n c : Nat) (R : Nat → Bool → Value) (cs : List Value), x ≤ n1 ∧ s51 = .int .i64 x ∧ s9 = .slice A n c ∧ Kept [] w3 wr ∧ Hid (SmO wr w3.heap.size 30 72 A n c (prI p x) R cs)) (fun _ s51 _ => n1 - (intOf s51).toNat)
 case atStart => exact ⟨0, none, 0, 0, fun _ _ => .slice none 0 0, [], Nat.zero_le _, rfl, rfl, Kept.refl _ _, Lib.hid (SmO.nil _ _ _ _ _)⟩
 case round =>
 rename World => wr
 obtain ⟨i, A, n, c, R, cs, hi, rfl, rfl, hkr, HSM⟩ := hrel
 have hB0r := hkr.blk (by simp) (B01.out.later M3.out.low)
 have ⟨L0r, C0r, F0r⟩ := hB0r
 have hlow : Below w.heap.size w wr := hlow3.trans (hkr.toBelow.mono hlow3.size)
 have hnn : n ≤ i := by have h1 := HSM.out.len; have h2 := prI_len p i; omega
 clear C03 F03
 by_cases hlt : i < n1
 case pos =>
   obtain ⟨b1, o1, e1, hl1, hc1⟩ := HND.out.2 (by omega)
   obtain ⟨r1, r2, r3⟩ := hc1 i hlt
   subst e1
   obtain ⟨nf, hnf⟩ : ∃ y, (gn p.ns i).f = y := ⟨_, rfl⟩
   obtain ⟨nk, hnk⟩ : ∃ y, (gn p.ns i).k = y := ⟨_, rfl⟩
   obtain ⟨ni, hni⟩ : ∃ y, (gn p.ns i).i = y := ⟨_, rfl⟩
   rw [hnf] at r1
   rw [hnk] at r2
   rw [hni] at r3
   replace r1 := (hlow.cell (p := ⟨b1, _, none⟩) hl1).trans r1
   replace r2 := (hlow.cell (p := ⟨b1, _, none⟩) hl1).trans r2
   replace r3 := (hlow.cell (p := ⟨b1, _, none⟩) hl1).trans r3
   have hl1r : b1 < wr.heap.size := Nat.lt_of_lt_of_le hl1 hlow.size
   have HNK := Lib.hid hnk
   have HNF := Lib.hid hnf
   have hip : i < p.ns.length := by rw [HND.out.1]; exact hlt
   have hi9 : (i : Int) < (n1 : Int) := by omega
   clear hc1 hnf hnk hni
   go_upto_region 20 with fail
   refine wp_named (fun X => ∃ y, wr.heap.size = y ∧ Blk X y [.int .i64 nf, .int .i64 nk, .int .i64 ni] ∧ Kept [] wr X) ⟨_, rfl, Blk.new _ _ _ _ rfl, (Kept.refl _ _).alloc _⟩ ?_
   rintro V ⟨y, ey, By, hkV⟩
   rw [ey]
   have ⟨Ly, Cy, Fy⟩ := By
   have MV := Lib.hid (M3.out.call (keptTrans hkr hkV).toBelow)
   have hi1 : i < K.n1 := by rw [hK1]; exact hlt
   have ⟨L0v, C0v, F0v⟩ := hkV.blk (by simp) hB0r
   clear C0r F0r r1 r2 r3 ey
   by_cases h1 : nk = 1
   · subst h1
     have HNX : Hid (prI p (i + 1) = prI p i ++ [⟨nf, [], []⟩]) := Lib.hid (by rw [prI_start HOX.out hip HNK.out, HNF.out])
     have HSV := Lib.hid (HSM.out.keep hkV)
     have HSB : Hid (SmO V w3.heap.size 30 72 A n c (prI p i) R cs) := HSV
     have hbV : w3.heap.size ≤ V.heap.size := (keptTrans hkr hkV).size
     go_upto_region 27 with (at_builtin; refine wpList_append_rd _ rfl _ _ 22 rfl w3.heap.size 30 i1 (.agg #[.int .i64 0, .slice none 0 0, .slice none 0 0]) 3 56 Tryz.underlying22 hj hy0 hy1 hy2 rfl (by decide) (.slice A n c) n _ rfl (own_keptT (X := []) HSB.out.own ((Kept.refl _ _).alloc _) (by simp)) (some ⟨V.heap.size, 0, none⟩) 1 1 [.int .i64 nf, .slice none 0 0, .slice none 0 0] rfl (new3P _ _ _ _ _ _ rfl) (fun h => by cases h) (by intro u hu; simp at hu; rcases hu with rfl | rfl <;> rfl) (n + 1) rfl _ rfl (by unfold maxLen; omega) (by omega) (by simp; omega) ?_; intro A9 c9 w9 hown9 hk9 hat9; have HO9 := Lib.hid hown9; have HK9 := Lib.hid hk9; clear hown9 hk9 hat9)
     have HX3 : Hid (∀ y ∈ (Value.slice A n c).ownBlock.toList, w3.heap.size ≤ y) := Lib.hid (fun y hy => own_ge HSB.out.own (by simpa using hy))
     have HK39 : Hid (Kept (Value.slice A n c).ownBlock.toList V w9) := Lib.hid (((Kept.refl _ V).alloc _).next HK9.out (fun y hy => .inl hy))
     have HS9 := Lib.hid (HSV.out.push (by decide) (u := ⟨nf, [], []⟩) rfl HO9.out HK39.out (World.ownsRow_nil _ _ _ _) (World.ownsRow_nil _ _ _ _) (fun i b hi g hg => ⟨by simp [Value.ownBlock], by simp [Value.ownBlock]⟩) (fun g hg => by cases hg))
     rw [← HNX.out] at HS9
     have hk39 : Kept [] w3 w9 := kept_fresh (keptTrans hkr hkV) HK39.out HX3.out
     go_wp2_with fail
     exact ⟨⟨i + 1, A9, n + 1, c9, _, _, by omega, by go_num, rfl, hk39, HS9⟩, by simp [intOf]; omega⟩
   have z1 : (nk == 1) = false := by simpa using h1
   by_cases h3 : nk = 3
   · subst h3
     have hlast := prI_end HOX.out hip false (by rw [HNK.out]; rfl)
     obtain ⟨hpos, hnext⟩ := hlast
     have hnl : (prI p i).length = n := HSM.out.len
     rw [hnl] at hpos hnext
     obtain ⟨n', rfl⟩ : ∃ n', n = n' + 1 := ⟨n - 1, by omega⟩
     rw [Nat.add_sub_cancel] at hnext
     have HNX := Lib.hid hnext
     obtain ⟨gA, cA9, hv9, hgb, hgl, hcc, -, hcl9, hfr9⟩ := own_cellsT HSM.out.own (by omega)
     injection hv9 with ea9 _ ec9
     subst ea9
     subst ec9
     have hgA : gA < V.heap.size := Nat.lt_of_lt_of_le hgl hkV.size
     have HSV := Lib.hid (HSM.out.keep hkV)
     have hfrV : V.frozen? ⟨gA, n' * 3 + 1, none⟩ = false := (hkV.frozen gA _ hgl (by simp)).trans (hfr9 _)
     have hcV : V.cell? ⟨gA, n' * 3 + 1, none⟩ = some (R n' false) := (hkV.cell gA _ hgl (by simp)).trans ((hcl9 _ (by omega)).trans (HSM.out.cell n' (by omega)).2.1)
     have y3 : (((n' + 1 : Nat) : Int)) - 1 = (n' : Int) := by omega
     have y2 : IntKind.i64.wrap ((((n' + 1 : Nat) : Int)) - 1) = (n' : Int) := by rw [y3]; exact IntWalk.i64_in _ (by omega)
     have y4 : (n' : Int) < ((n' + 1 : Nat) : Int) := by omega
     have y5 : (n' : Int) < (n' : Int) + 1 := by omega
     have y6 : IntKind.i64.wrap ((n' : Int) + 1 - 1) = (n' : Int) := by rw [show (n' : Int) + 1 - 1 = (n' : Int) by omega]; exact IntWalk.i64_in _ (by omega)
     clear hnext hpos hnl hfr9 hcl9
     go_upto_region 27 with (go_at_call 58; refine (pairs_any _ i MV.out hi1 HOX.out HPE.out).mono ?_; rintro e w5 ⟨A5, k5, c5, rfl, hk5c, hp5, hown5, hb5⟩; have HO5 := Lib.hid hown5; have HP5 := Lib.hid hp5; clear hown5 hp5; have hk5 : Kept [] V w5 := (Kept.refl _ _).call hb5; have hfr5 : w5.frozen? ⟨gA, n' * 3 + 1, none⟩ = false := (hk5.frozen gA _ hgA (by simp)).trans hfrV; have hgA5 : gA < w5.heap.size := Nat.lt_of_lt_of_le hgA hk5.size; have hc5 := (hk5.cell gA (n' * 3 + 1) hgA (by simp)).trans hcV)
     refine wp_named (fun X => SmO X w3.heap.size 30 72 (some ⟨gA, 0, none⟩) (n' + 1) c (prI p (i + 1)) (updR R n' false (.slice A5 k5 c5)) (cs.set (n' * 3 + 1) (.slice A5 k5 c5)) ∧ Kept [] w3 X) ⟨?_, ?_⟩ ?_
     · rw [HNX.out]
       exact HSV.out.put (w1 := w5) (by decide) rfl false (v := .slice A5 k5 c5) (l := pairX p i) (k := n' * 3 + 1) (keptWide hk5 (by simp)) (by rw [HP5.out.1]; exact own_baseK HO5.out (by have := hkV.size; have := hkr.size; omega)) (fun x hx => .inr (own_ge HO5.out hx)) rfl
     · exact (keptTrans (keptTrans hkr hkV) hk5).set gA _ _ (.inr hgb)
     rintro X ⟨hSX, hkX⟩
     have HSX := Lib.hid hSX
     clear hfr5 hc5 hSX
     go_wp2_with fail
     exact ⟨⟨i + 1, some ⟨gA, 0, none⟩, n' + 1, c, _, _, by omega, by go_num, rfl, hkX, HSX⟩, by simp [intOf]; omega⟩
   have z3 : (nk == 3) = false := by simpa using h3
   by_cases h4 : nk = 4
   · subst h4
     have hlast := prI_end HOX.out hip true (by rw [HNK.out]; rfl)
     obtain ⟨hpos, hnext⟩ := hlast
     have hnl : (prI p i).length = n := HSM.out.len
     rw [hnl] at hpos hnext
     obtain ⟨n', rfl⟩ : ∃ n', n = n' + 1 := ⟨n - 1, by omega⟩
     rw [Nat.add_sub_cancel] at hnext
     have HNX := Lib.hid hnext
     obtain ⟨gA, cA9, hv9, hgb, hgl, hcc, -, hcl9, hfr9⟩ := own_cellsT HSM.out.own (by omega)
     injection hv9 with ea9 _ ec9
     subst ea9
     subst ec9
     have hgA : gA < V.heap.size := Nat.lt_of_lt_of_le hgl hkV.size
     have HSV := Lib.hid (HSM.out.keep hkV)
     have hfrV : V.frozen? ⟨gA, n' * 3 + 2, none⟩ = false := (hkV.frozen gA _ hgl (by simp)).trans (hfr9 _)
     have hcV : V.cell? ⟨gA, n' * 3 + 2, none⟩ = some (R n' true) := (hkV.cell gA _ hgl (by simp)).trans ((hcl9 _ (by omega)).trans (HSM.out.cell n' (by omega)).2.2)
     have y3 : (((n' + 1 : Nat) : Int)) - 1 = (n' : Int) := by omega
     have y2 : IntKind.i64.wrap ((((n' + 1 : Nat) : Int)) - 1) = (n' : Int) := by rw [y3]; exact IntWalk.i64_in _ (by omega)
     have y4 : (n' : Int) < ((n' + 1 : Nat) : Int) := by omega
     have y5 : (n' : Int) < (n' : Int) + 1 := by omega
     have y6 : IntKind.i64.wrap ((n' : Int) + 1 - 1) = (n' : Int) := by rw [show (n' : Int) + 1 - 1 = (n' : Int) by omega]; exact IntWalk.i64_in _ (by omega)
     clear hnext hpos hnl hfr9 hcl9
     go_upto_region 27 with (go_at_call 58; refine (pairs_any _ i MV.out hi1 HOX.out HPE.out).mono ?_; rintro e w5 ⟨A5, k5, c5, rfl, hk5c, hp5, hown5, hb5⟩; have HO5 := Lib.hid hown5; have HP5 := Lib.hid hp5; clear hown5 hp5; have hk5 : Kept [] V w5 := (Kept.refl _ _).call hb5; have hfr5 : w5.frozen? ⟨gA, n' * 3 + 2, none⟩ = false := (hk5.frozen gA _ hgA (by simp)).trans hfrV; have hgA5 : gA < w5.heap.size := Nat.lt_of_lt_of_le hgA hk5.size; have hc5 := (hk5.cell gA (n' * 3 + 2) hgA (by simp)).trans hcV)
     refine wp_named (fun X => SmO X w3.heap.size 30 72 (some ⟨gA, 0, none⟩) (n' + 1) c (prI p (i + 1)) (updR R n' true (.slice A5 k5 c5)) (cs.set (n' * 3 + 2) (.slice A5 k5 c5)) ∧ Kept [] w3 X) ⟨?_, ?_⟩ ?_
     · rw [HNX.out]
       exact HSV.out.put (w1 := w5) (by decide) rfl true (v := .slice A5 k5 c5) (l := pairX p i) (k := n' * 3 + 2) (keptWide hk5 (by simp)) (by rw [HP5.out.1]; exact own_baseK HO5.out (by have := hkV.size; have := hkr.size; omega)) (fun x hx => .inr (own_ge HO5.out hx)) rfl
     · exact (keptTrans (keptTrans hkr hkV) hk5).set gA _ _ (.inr hgb)
     rintro X ⟨hSX, hkX⟩
     have HSX := Lib.hid hSX
     clear hfr5 hc5 hSX
     go_wp2_with fail
     exact ⟨⟨i + 1, some ⟨gA, 0, none⟩, n' + 1, c, _, _, by omega, by go_num, rfl, hkX, HSX⟩, by simp [intOf]; omega⟩
   have z4 : (nk == 4) = false := by simpa using h4
   have HNX : Hid (prI p (i + 1) = prI p i) := Lib.hid (prI_else (by rw [HNK.out]; exact h3) (by rw [HNK.out]; exact h4) (by rw [HNK.out]; exact h1))
   have HSV := Lib.hid (HSM.out.keep hkV)
   clear h1 h3 h4
   go_wp2_with fail
   exact ⟨⟨i + 1, A, n, c, R, cs, by omega, by go_num, rfl, keptTrans hkr hkV, by rw [HNX.out]; exact HSV⟩, by simp [intOf]; omega⟩
 obtain rfl : n1 = i := by omega
 have HALL : Hid (prI p n1 = fulI p p.ns.length) := Lib.hid (by have h1 := prI_all HOX.out; rw [HND.out.1] at h1 ⊢; exact h1)
 have HPL : Hid (∀ u ∈ prI p n1, u.x.length ≤ 8192 ∧ u.y.length ≤ 8192) := Lib.hid (fun u hu => by
   rw [HALL.out] at hu
   have h1 := fulI_pairs HOX.out u hu
   rw [HFN.out] at h1
   have h2 : F * F ≤ 90 * 90 := Nat.mul_le_mul hF9 hF9
   omega)
 have HSW := Lib.hid HSM.out.sm
 clear hlt hi HSM
 go_wp2_with fail
 go_loopw [91] (fun s91 wq => ∃ j : Nat, j ≤ n ∧ s91 = .int .i64 j ∧ Kept [] wr wq) (fun s91 _ => n - (intOf s91).toNat)
 case atStart => exact ⟨0, Nat.zero_le _, rfl, Kept.refl _ _⟩
 case round =>
 rename World => wq
 clear C0r F0r
 obtain ⟨j, hj, rfl, hkq⟩ := hrel
 by_cases hlj : j < n
 case neg =>
   go_wp2_with fail
   go_ret2
   refine ⟨A, n, c, rfl, by omega, ?_, hlow.trans (hkq.toBelow.mono hlow.size)⟩
   rw [← HALL.out]
   exact HSW.out.later hkq.toBelow
 obtain ⟨bL, oL, rfl, hlL, hcL⟩ := (HSW.out.later hkq.toBelow).mem (by omega)
 obtain ⟨E, ne, ce, TH, nt, ct, s1, s2, s3, hpE, hpT⟩ := hcL j hlj
 obtain ⟨sf, hsf⟩ : ∃ y, (gS (prI p n1) j).f = y := ⟨_, rfl⟩
 rw [hsf] at s1
 have hjm : gS (prI p n1) j ∈ prI p n1 := gS_mem7 (by rw [HSW.out.len]; exact hlj)
 have hne : ne ≤ 8192 := by have h1 := (HPL.out _ hjm).1; rw [hpE.1] at h1; exact h1
 have hnt : nt ≤ 8192 := by have h1 := (HPL.out _ hjm).2; rw [hpT.1] at h1; exact h1
 have hj9 : (j : Int) < (n : Int) := by omega
 have z5 : decide ((8192 : Int) < (ne : Int)) = false := by simp; omega
 have z6 : decide ((8192 : Int) < (nt : Int)) = false := by simp; omega
 clear hcL hpE hpT hsf hjm
 go_upto_region 31 with fail
 refine wp_named (fun X => ∃ y, wq.heap.size = y ∧ Blk X y [.int .i64 sf, .slice E ne ce, .slice TH nt ct] ∧ Kept [] wq X) ⟨_, rfl, Blk.new _ _ _ _ rfl, (Kept.refl _ _).alloc _⟩ ?_
 rintro V ⟨y, ey, By, hkV⟩
 rw [ey]
 have ⟨Ly, Cy, Fy⟩ := By
 clear s1 s2 s3 ey
 go_wp2_with fail
 exact ⟨⟨j + 1, by omega, by go_num, keptTrans hkq hkV⟩, by simp [intOf]; omega⟩
end Go.Proofs.YtooejoajojanjaaGreatDoor
