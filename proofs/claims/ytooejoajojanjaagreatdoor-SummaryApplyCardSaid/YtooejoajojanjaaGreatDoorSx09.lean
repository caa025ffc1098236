/- Texts: Ra Rb Xa Xb Rc Mb Si Sk. -/
import Derived.Test.YtooejoajojanjaaGreatDoorSx03
import Derived.WalkKit
import Derived.LaidEql
import Derived.Stop.Asserts
import Derived.RowKitTokens
import Derived.Test.YtooejoajojanjaaGreatDoorSx08
import Derived.Test.YtooejoajojanjaaGreatDoorSx01
import Derived.Lib.SlicesCompact
import Derived.Test.YtooejoajojanjaaGreatDoorProg
import Derived.Shelf.Sort.Plain
import Derived.Shelf.Slices.CompactI
import Derived.Shelf.Lays2
import Derived.Test.YtooejoajojanjaaGreatDoorSx02
import Derived.Test.YtooejoajojanjaaGreatDoorRows
import Derived.Maps.OwnOps
namespace Go.Proofs.YtooejoajojanjaaGreatDoor
open Go.RowKit Go.Df Go.Extern.Stop Go.Stop Go.Extern
attribute [local go_sem ↓] Go.wp_at_zero Go.wp_at_succ
theorem As.valueOfP (t : Addr) (w : World) : (ReflectliteValue.unpack (.iface 93 (.pointer (some t)))).run Tryz.prog w
    = .ok (.agg #[.pointer (some ⟨7, 93, none⟩), .pointer (some ⟨w.heap.size, 0, none⟩), .int .u64 150]) (w.alloc (.cells #[.pointer (some t)] 93)) := by kernel_rfl
theorem As.typeP (a : Addr) (w : World) : (ReflectliteValue.methodAny (ReflectliteValue.valueError "reflectlite.Value.Type" 0) (fun t _ _ _ => ReflectliteType.toType t) #[.agg #[.pointer (some ⟨7, 93, none⟩), .pointer (some a), .int .u64 150]]).run Tryz.prog w
    = .ok (.iface 195 (.agg #[.pointer (some ⟨7, 93, none⟩)])) w := by kernel_rfl
theorem As.kindP (w : World) : ((ReflectliteType.abiMethod fun t => (fun a : Nat => Value.int IntKind.u8 (a : Int)) <$> Rtype.kind t) #[.pointer (some ⟨7, 93, none⟩)]).run Tryz.prog w = .ok (.int .u8 22) w := by kernel_rfl
theorem As.kindL (w : World) : ((ReflectliteType.abiMethod fun t => (fun a : Nat => Value.int IntKind.u8 (a : Int)) <$> Rtype.kind t) #[.pointer (some ⟨7, 91, none⟩)]).run Tryz.prog w = .ok (.int .u8 25) w := by kernel_rfl
theorem As.rlm (z : Sem Value) (f : TypeId → Addr → Nat → Nat → Sem Value) (v : Value) :
    ReflectliteValue.method z f #[v] = (do match ← ReflectliteValue.parts v with | none => z | some (t, a, fl) => f t a fl (fl % 32)) := rfl
theorem As.partsP (a : Addr) (w : World) : (ReflectliteValue.parts (.agg #[.pointer (some ⟨7, 93, none⟩), .pointer (some a), .int .u64 150])).run Tryz.prog w = .ok (some (93, a, 150)) w := by kernel_rfl
theorem As.isNilP (a p : Addr) (W : World) (ha : W.cell? a = some (.pointer (some p))) :
    (ReflectliteValue.method (ReflectliteValue.valueError "reflectlite.Value.IsNil" 0) ReflectliteValue.isNil #[.agg #[.pointer (some ⟨7, 93, none⟩), .pointer (some a), .int .u64 150]]).run Tryz.prog W = .ok (.bool false) W := by
  rw [As.rlm]
  simp only [Sem.run_bind, As.partsP, Result.andThen]
  simp [ReflectliteValue.isNil, loadVar, isAgg, underlying, Tryz.underlying93, ha, Result.andThen]
theorem As.elemP (w : World) : (ReflectliteType.method ReflectliteType.elem #[.agg #[.pointer (some ⟨7, 93, none⟩)]]).run Tryz.prog w = .ok (.iface 195 (.agg #[.pointer (some ⟨7, 91, none⟩)])) w := by kernel_rfl
theorem As.implL (w : World) : (ReflectliteType.relation "Implements" ReflectliteType.implements_ #[.agg #[.pointer (some ⟨7, 91, none⟩)], .iface 195 (.agg #[.pointer (some ⟨7, 79, none⟩)])]).run Tryz.prog w = .ok (.bool true) w := by kernel_rfl
theorem As.typeOfL (v : Value) (w : World) : (ReflectliteType.typeOf #[.iface 91 v]).run Tryz.prog w = .ok (.iface 195 (.agg #[.pointer (some ⟨7, 91, none⟩)])) w := by kernel_rfl
theorem As.assignL (w : World) : (ReflectliteType.relation "AssignableTo" ReflectliteType.assignableTo #[.agg #[.pointer (some ⟨7, 91, none⟩)], .iface 195 (.agg #[.pointer (some ⟨7, 91, none⟩)])]).run Tryz.prog w = .ok (.bool true) w := by kernel_rfl
theorem As.valueOfL (x y : Int) (w : World) : (ReflectliteValue.unpack (.iface 91 (.agg #[.int .i64 x, .int .i64 y]))).run Tryz.prog w
    = .ok (.agg #[.pointer (some ⟨7, 91, none⟩), .pointer (some ⟨w.heap.size, 0, none⟩), .int .u64 153]) (w.alloc (.cells #[.int .i64 x, .int .i64 y] 91)) := by kernel_rfl
theorem As.elemOfP (w : World) : (Rtype.elem? 93).run Tryz.prog w = .ok (some 91) w := by kernel_rfl
theorem As.mkL (p : Addr) (w : World) : (ReflectliteValue.mk 91 p ReflectliteValue.flagAddr).run Tryz.prog w = .ok (.agg #[.pointer (some ⟨7, 91, none⟩), .pointer (some p), .int .u64 409]) w := by kernel_rfl
theorem As.elemVP (a p : Addr) (W : World) (ha : W.cell? a = some (.pointer (some p))) :
    (ReflectliteValue.method (ReflectliteValue.valueError "reflectlite.Value.Elem" 0) ReflectliteValue.elem #[.agg #[.pointer (some ⟨7, 93, none⟩), .pointer (some a), .int .u64 150]]).run Tryz.prog W
      = .ok (.agg #[.pointer (some ⟨7, 91, none⟩), .pointer (some p), .int .u64 409]) W := by
  rw [As.rlm]
  simp only [Sem.run_bind, As.partsP, Result.andThen]
  simp [ReflectliteValue.elem, loadVar, isAgg, underlying, Tryz.underlying93, ha, Result.andThen, As.elemOfP, As.mkL]
theorem As.rls (v x : Value) : ReflectliteValue.set #[v, x] = (do
    let (some (dst, a, fl), some (src, b, _)) := (← ReflectliteValue.parts v, ← ReflectliteValue.parts x)
      | unsupported (.noEntry "extern/(internal/reflectlite.Value).Set.zeroValue")
    if fl / ReflectliteValue.flagAddr % 2 == 0 then unsupported (.noEntry "extern/(internal/reflectlite.Value).Set.unaddressable")
    let val ← loadVar src b
    if ← Rtype.directlyAssignable dst src then storeVar dst a val
    else if ← Rtype.implements dst src then
      if (← Rtype.kind src) == 20 then
        match val with
        | .nilIface => unsupported (.noEntry "extern/reflectlite: a nil value of one interface type handed on as a value of another")
        | _ => storeVar dst a val
      else storeVar dst a (.iface src val)
    else panicString ("reflectlite.Set: value of type " ++ (← Rtype.spelt src) ++ " is not assignable to type " ++ (← Rtype.spelt dst))
    pure (.tuple #[])) := rfl
theorem As.partsLa (a : Addr) (w : World) : (ReflectliteValue.parts (.agg #[.pointer (some ⟨7, 91, none⟩), .pointer (some a), .int .u64 409])).run Tryz.prog w = .ok (some (91, a, 409)) w := by kernel_rfl
theorem As.partsL (a : Addr) (w : World) : (ReflectliteValue.parts (.agg #[.pointer (some ⟨7, 91, none⟩), .pointer (some a), .int .u64 153])).run Tryz.prog w = .ok (some (91, a, 153)) w := by kernel_rfl
theorem As.directL (w : World) : (Rtype.directlyAssignable 91 91).run Tryz.prog w = .ok true w := by kernel_rfl
theorem As.setL (t b : Nat) (x y : Int) (o0 o1 : Value) (W : World) (hb0 : W.cell? ⟨b, 0, none⟩ = some (.int .i64 x)) (hb1 : W.cell? ⟨b, 1, none⟩ = some (.int .i64 y)) (ht0 : W.cell? ⟨t, 0, none⟩ = some o0) (ht1 : W.cell? ⟨t, 1, none⟩ = some o1) (hf : ∀ i, W.frozen? ⟨t, i, none⟩ = false) :
    (ReflectliteValue.set #[.agg #[.pointer (some ⟨7, 91, none⟩), .pointer (some ⟨t, 0, none⟩), .int .u64 409], .agg #[.pointer (some ⟨7, 91, none⟩), .pointer (some ⟨b, 0, none⟩), .int .u64 153]]).run Tryz.prog W
      = .ok (.tuple #[]) ((W.setCell ⟨t, 0, none⟩ (.int .i64 x)).setCell ⟨t, 1, none⟩ (.int .i64 y)) := by
  rw [As.rls]
  simp only [Sem.run_bind, As.partsLa, As.partsL, Result.andThen]
  simp [ReflectliteValue.flagAddr, loadVar, isAgg, underlying, Tryz.underlying91, hb0, hb1, Result.andThen, As.directL, storeVar, Value.cells, storeCells, Addr.add, go_sem]
  simp [ht0, hf]
  rw [World.cell?_setCell_other _ _ _ _ (by simp), ht1]
set_option maxRecDepth 100000 in
set_option maxHeartbeats 8000000 in
theorem as_any (x y : Int) (t : Nat) (o0 o1 : Value) (w : World) (hg : w.cell? ⟨0, 0, none⟩ = some (.iface 195 (.agg #[.pointer (some ⟨7, 79, none⟩)]))) (BT : Blk w t [o0, o1]) :
    Calls Tryz.prog 47 #[.iface 91 (.agg #[.int .i64 x, .int .i64 y]), .iface 93 (.pointer (some ⟨t, 0, none⟩))] w fun e w' => e = .returned (.bool true) ∧ Blk w' t [.int .i64 x, .int .i64 y] ∧ Kept [t] w w' := by
  have h6 := @run_callFunc_extern Tryz.prog 77 _ (fun args => ReflectliteValue.unpack (args.getD 0 (.tuple #[]))) Tryz.func77 (by kernel_rfl) (by kernel_rfl) (by kernel_rfl) (by kernel_rfl)
  have h7 := @run_callFunc_extern Tryz.prog 78 _ (ReflectliteValue.methodAny (ReflectliteValue.valueError "reflectlite.Value.Type" 0) (fun t _ _ _ => ReflectliteType.toType t)) Tryz.func78 (by kernel_rfl) (by kernel_rfl) (by kernel_rfl) (by kernel_rfl)
  have h8 := @run_callFunc_extern Tryz.prog 79 _ (ReflectliteValue.method (ReflectliteValue.valueError "reflectlite.Value.IsNil" 0) ReflectliteValue.isNil) Tryz.func79 (by kernel_rfl) (by kernel_rfl) (by kernel_rfl) (by kernel_rfl)
  have h27 := @run_callFunc_extern Tryz.prog 215 _ (ReflectliteType.abiMethod fun t => do pure (.int .u8 (← Rtype.kind t))) Tryz.func215 (by kernel_rfl) (by kernel_rfl) (by kernel_rfl) (by kernel_rfl)
  have h37 := @run_callFunc_extern Tryz.prog 227 _ (ReflectliteType.method ReflectliteType.elem) Tryz.func227 (by kernel_rfl) (by kernel_rfl) (by kernel_rfl) (by kernel_rfl)
  have h38 := @run_callFunc_extern Tryz.prog 228 _ (ReflectliteType.relation "Implements" ReflectliteType.implements_) Tryz.func228 (by kernel_rfl) (by kernel_rfl) (by kernel_rfl) (by kernel_rfl)
  have h10 := @run_callFunc_extern Tryz.prog 118 _ ReflectliteType.typeOf Tryz.func118 (by kernel_rfl) (by kernel_rfl) (by kernel_rfl) (by kernel_rfl)
  have h35 := @run_callFunc_extern Tryz.prog 225 _ (ReflectliteType.relation "AssignableTo" ReflectliteType.assignableTo) Tryz.func225 (by kernel_rfl) (by kernel_rfl) (by kernel_rfl) (by kernel_rfl)
  have h11 := @run_callFunc_extern Tryz.prog 119 _ (ReflectliteValue.method (ReflectliteValue.valueError "reflectlite.Value.Elem" 0) ReflectliteValue.elem) Tryz.func119 (by kernel_rfl) (by kernel_rfl) (by kernel_rfl) (by kernel_rfl)
  have h12 := @run_callFunc_extern Tryz.prog 120 _ ReflectliteValue.set Tryz.func120 (by kernel_rfl) (by kernel_rfl) (by kernel_rfl) (by kernel_rfl)
  have tO := As.typeOfL
  have a25 := As.assignL
  have v25 := As.valueOfL
  have f6 := As.valueOfP
  have f7 := As.typeP
  have k27 := As.kindP
  have k25 := As.kindL
  have e27 := As.elemP
  have i25 := As.implL
  have ⟨LT, CT, FT⟩ := BT
  -- MARK1
  go_enter Tryz.func47, Tryz.ntmps47
  have hlt : 0 < w.heap.size := by
    rcases Nat.eq_zero_or_pos w.heap.size with h0 | h
    · simp [World.cell?, h0] at hg
    · exact h
  have n8 := As.isNilP ⟨w.heap.size, 0, none⟩ ⟨t, 0, none⟩ ((w.alloc (.cells #[.pointer (some ⟨t, 0, none⟩)] 93)).alloc (.cells #[.pointer (some ⟨7, 93, none⟩), .pointer (some ⟨w.heap.size, 0, none⟩), .int .u64 150] 134)) (by simp)
  have hg2 : ((w.alloc (.cells #[.pointer (some ⟨t, 0, none⟩)] 93)).alloc (.cells #[.pointer (some ⟨7, 93, none⟩), .pointer (some ⟨w.heap.size, 0, none⟩), .int .u64 150] 134)).cell? ⟨0, 0, none⟩ = some (.iface 195 (.agg #[.pointer (some ⟨7, 79, none⟩)])) := by
    rw [World.cell?_alloc_lt _ _ ⟨0, 0, none⟩ (by simp), World.cell?_alloc_lt _ _ ⟨0, 0, none⟩ hlt]; exact hg
  have el := As.elemVP ⟨w.heap.size, 0, none⟩ ⟨t, 0, none⟩ (((w.alloc (.cells #[.pointer (some ⟨t, 0, none⟩)] 93)).alloc (.cells #[.pointer (some ⟨7, 93, none⟩), .pointer (some ⟨w.heap.size, 0, none⟩), .int .u64 150] 134)).alloc (.cells #[.pointer (some ⟨7, 93, none⟩), .pointer (some ⟨w.heap.size, 0, none⟩), .int .u64 150] 134)) (by rw [World.cell?_alloc_lt _ _ ⟨w.heap.size, 0, none⟩ (by simp; omega)]; simp)
  have hk4 : Kept [] w ((((w.alloc (.cells #[.pointer (some ⟨t, 0, none⟩)] 93)).alloc (.cells #[.pointer (some ⟨7, 93, none⟩), .pointer (some ⟨w.heap.size, 0, none⟩), .int .u64 150] 134)).alloc (.cells #[.pointer (some ⟨7, 93, none⟩), .pointer (some ⟨w.heap.size, 0, none⟩), .int .u64 150] 134)).alloc (.cells #[.int .i64 x, .int .i64 y] 91)) := (((((Kept.refl [] w).alloc _).alloc _).alloc _).alloc _)
  have B4 : Blk ((((w.alloc (.cells #[.pointer (some ⟨t, 0, none⟩)] 93)).alloc (.cells #[.pointer (some ⟨7, 93, none⟩), .pointer (some ⟨w.heap.size, 0, none⟩), .int .u64 150] 134)).alloc (.cells #[.pointer (some ⟨7, 93, none⟩), .pointer (some ⟨w.heap.size, 0, none⟩), .int .u64 150] 134)).alloc (.cells #[.int .i64 x, .int .i64 y] 91)) t [o0, o1] := hk4.blk (by simp) BT
  have st := As.setL t (w.heap.size + 1 + 1 + 1) x y o0 o1 ((((w.alloc (.cells #[.pointer (some ⟨t, 0, none⟩)] 93)).alloc (.cells #[.pointer (some ⟨7, 93, none⟩), .pointer (some ⟨w.heap.size, 0, none⟩), .int .u64 150] 134)).alloc (.cells #[.pointer (some ⟨7, 93, none⟩), .pointer (some ⟨w.heap.size, 0, none⟩), .int .u64 150] 134)).alloc (.cells #[.int .i64 x, .int .i64 y] 91)) (by rw [World.cell?_alloc_at _ _ _ _ (by simp)]; rfl) (by rw [World.cell?_alloc_at _ _ _ _ (by simp)]; rfl) (B4.2.1 0) (B4.2.1 1) B4.2.2
  clear LT CT FT
  go_wp2
  refine wp_loop_rounds 1 ?_
  rw [rounds_succ]
  go_wp2
  go_ret
  refine ⟨rfl, (B4.set 0 _).set 1 _, ?_⟩
  exact ((((((Kept.refl [t] w).alloc _).alloc _).alloc _).alloc _).set t 0 _ (.inl (by simp))).set t 1 _ (.inl (by simp))
end Go.Proofs.YtooejoajojanjaaGreatDoor
namespace Go.Df.If
open Go.RowKit Go.Df
/-- What parse answers: a list, or the line and the error. -/
def GetE (w : World) (r : List Su × Int × Int) (e : Ending) (w' : World) : Prop :=
  (r.2.2 = 0 → ∃ A n c, e = .returned (.tuple #[.slice A n c, .nilIface]) ∧ r.2.1 = 0 ∧ SmW w' A n r.1) ∧ (r.2.2 ≠ 0 → e = .returned (.tuple #[.slice none 0 0, .iface 91 (.agg #[.int .i64 r.2.1, .int .i64 r.2.2])]) ∧ r.1 = []) ∧ Below w.heap.size w w'
end Go.Df.If
namespace Go.Proofs.YtooejoajojanjaaGreatDoor
open Go.RowKit Go.Df Go.Df.If
attribute [local go_sem ↓] Go.wp_at_zero Go.wp_at_succ
set_option maxRecDepth 100000 in
set_option maxHeartbeats 8000000 in
theorem pparse_any (s : Bs) (w : World) (hs : s.length ≤ 9223372036854775807) (hm : Mx w.heap.size w) :
    Calls Tryz.prog 46 #[.string ⟨s.toArray⟩] w (GetE w (parS s)) := by
  obtain ⟨ln, hln⟩ : ∃ ln, s.length = ln := ⟨_, rfl⟩
  have HLN := Lib.hid hln
  by_cases hbig : 65536 < ln
  · have g1 : decide ((65536 : Int) < (ln : Int)) = true := by simp; omega
    have hE : Hid (parS s = ([], 0, 3)) := Lib.hid (by unfold parS; rw [if_pos (by omega)])
    clear hbig HLN hm
    go_enter Tryz.func46, Tryz.ntmps46
    go_wp2_with fail
    go_ret2
    rw [hE.out]
    exact ⟨fun h => (by cases h), fun _ => ⟨rfl, rfl⟩, Below.refl _ _⟩
  have g1 : decide ((65536 : Int) < (ln : Int)) = false := by simp; omega
  have HE0 : Hid (parF 1 [] s = parS s) := Lib.hid (by unfold parS parF; rw [if_neg (by omega)])
  have hln9 : ln ≤ 65536 := by omega
  have HM := Lib.hid hm
  clear hbig hs hm
  go_enter Tryz.func46, Tryz.ntmps46
  go_wp2_with fail
  go_loopw [0, 4, 5] (fun s0 s4 s5 wr => ∃ (r : Bs) (k : Nat) (A : Option Addr) (n c : Nat) (L : List Su) (R : Nat → Bool → Value) (cs : List Value), s0 = .string ⟨r.toArray⟩ ∧ s5 = .int .i64 ((k + 1 : Nat) : Int) ∧ s4 = .slice A n c ∧ k + r.length ≤ 65536 ∧ Hid (SmO wr w.heap.size 30 72 A n c L R cs) ∧ Hid (sumErr 1024 L = 0) ∧ Hid (parF (k + 1) L r = parS s) ∧ Hid (Below w.heap.size w wr)) (fun s0 _ _ _ => match s0 with | .string b => b.size | _ => 0)
  case atStart => exact ⟨s, 0, none, 0, 0, [], fun _ _ => .nilIface, [], rfl, rfl, rfl, by omega, Lib.hid (SmO.nil _ _ _ _ _), Lib.hid sum_nil, HE0, Lib.hid (Below.refl _ _)⟩
  case round =>
  obtain ⟨r, k, A, n, c, L, R, cs, rfl, rfl, rfl, hkr, HS, HOK, HP, HB⟩ := hrel
  have hsz := HB.out.size
  by_cases h0 : r = []
  · subst h0
    have hE : Hid (parS s = (L, 0, 0)) := Lib.hid (by rw [← HP.out]; exact parF_nil _ _)
    go_wp2_with fail
    go_ret2
    rw [hE.out]
    exact ⟨fun _ => ⟨A, n, c, rfl, rfl, HS.out.sm⟩, fun h => absurd rfl h, HB.out⟩
  have g7 : r.isEmpty = false := by
    cases r with
    | nil => exact absurd rfl h0
    | cons => rfl
  have HM2 := Lib.hid (HM.out.later HB.out)
  have HCU := Lib.hid (pcut_any r wr (by omega) HM2.out)
  cases hc : cutN r with
  | none =>
    have hE : Hid (parS s = ([], ((k + 1 : Nat) : Int), 21)) := Lib.hid (by rw [← HP.out]; exact parF_none h0 hc)
    rw [hc] at HCU
    clear hc
    -- MARK1
    go_wp2_with (go_at_call 75; refine HCU.out.mono ?_; rintro e w1 ⟨rfl, hk1⟩)
    go_ret2
    rw [hE.out]
    exact ⟨fun h => (by cases h), fun _ => ⟨rfl, rfl⟩, HB.out.trans (hk1.below0 hsz)⟩
  | some q =>
  obtain ⟨a, r2⟩ := q
  have HPA : Hid (parF (k + 1) L r = if (linS L a).1 ≠ 0 then ([], ((k + 1 : Nat) : Int), (linS L a).1) else parF (k + 1 + 1) (linS L a).2 r2) := Lib.hid (parF_some hc)
  have hlen := congrArg List.length (cutN_len hc)
  rw [List.length_append, List.length_cons] at hlen
  have HLI := Lib.hid (fun (w1 : World) (hk : Kept [] wr w1) => pline_any w.heap.size A n c L a R cs w1 (HS.out.keep hk) HOK.out (by omega) (by have := hk.size; omega) (HM2.out.later (hk.below0 hsz)))
  have HLO := Lib.hid (lin_ok (L := L) (s := a))
  obtain ⟨rr, hr⟩ : ∃ rr, linS L a = rr := ⟨_, rfl⟩
  rw [hr] at HPA HLI HLO
  rw [hc] at HCU
  obtain ⟨pe, L2⟩ := rr
  clear hc hr
  -- MARK2
  go_upto_region 11 with (first | (go_at_call 75; refine HCU.out.mono ?_; rintro e w1 ⟨rfl, hk1⟩; have HK1 := Lib.hid hk1) | (go_at_call 76; refine (HLI.out _ HK1.out).mono ?_; rintro e w2 ⟨A2, n2, c2, rfl, hS2, hb2⟩))
  have HS2 := Lib.hid hS2
  have HB2 : Hid (Below w.heap.size w w2) := Lib.hid ((HB.out.trans (hk1.below0 hsz)).trans hb2)
  clear hS2
  by_cases hp0 : pe = 0
  case neg =>
    have d0 : (pe != 0) = true := by simpa using hp0
    have hE : Hid (parS s = ([], ((k + 1 : Nat) : Int), pe)) := Lib.hid (by rw [← HP.out, HPA.out, if_pos hp0])
    have HP0 := Lib.hid hp0
    clear hp0
    go_wp2_with fail
    go_ret2
    rw [hE.out]
    exact ⟨fun h => absurd h HP0.out, fun _ => ⟨rfl, rfl⟩, HB2.out⟩
  subst hp0
  have HP2 : Hid (parF (k + 1 + 1) L2 r2 = parS s) := Lib.hid (by rw [← HP.out, HPA.out, if_neg (by simp)])
  obtain ⟨R2, cs2, hS3⟩ := HS2.out rfl
  have HS3 := Lib.hid hS3
  have HO3 := Lib.hid (HLO.out rfl)
  clear hS3
  -- MARK3
  go_wp2_with fail
  exact ⟨⟨r2, k + 1, A2, n2, c2, L2, R2, cs2, rfl, by go_num, rfl, by omega, HS3, HO3, HP2, HB2⟩, by simp [ByteArray.size]; omega⟩
set_option maxRecDepth 100000 in
set_option maxHeartbeats 8000000 in
theorem pParse_any (s : Bs) (w : World) (hs : s.length ≤ 9223372036854775807) (hm : Mx w.heap.size w) (hg : w.cell? ⟨0, 0, none⟩ = some (.iface 195 (.agg #[.pointer (some ⟨7, 79, none⟩)]))) :
    Calls Tryz.prog 19 #[.string ⟨s.toArray⟩] w (GetL w (parS s)) := by
  have HPP := Lib.hid (pparse_any s w hs hm)
  obtain ⟨r, hr⟩ : ∃ r, parS s = r := ⟨_, rfl⟩
  rw [hr] at HPP ⊢
  obtain ⟨L, pk, pe⟩ := r
  have HG := Lib.hid hg
  have hlt : 0 < w.heap.size := by
    rcases Nat.eq_zero_or_pos w.heap.size with h0 | h
    · simp [World.cell?, h0] at hg
    · exact h
  clear hr hs hm hg
  by_cases h0 : pe = 0
  · have HPQ : Hid (Calls Tryz.prog 46 #[.string ⟨s.toArray⟩] w fun e w' => ∃ A n c, e = .returned (.tuple #[.slice A n c, .nilIface]) ∧ pk = 0 ∧ SmW w' A n L ∧ Below w.heap.size w w') := Lib.hid (HPP.out.mono fun e w' h => (let ⟨A, n, c, h1, h2, h3⟩ := h.1 h0; ⟨A, n, c, h1, h2, h3, h.2.2⟩))
    clear HPP
    subst h0
    go_enter Tryz.func19, Tryz.ntmps19
    go_wp2_with (go_at_call 46; refine HPQ.out.mono ?_; rintro e w1 ⟨A, n, c, rfl, rfl, hS, hb⟩)
    go_ret3
    exact ⟨A, n, c, rfl, hS, hb⟩
  have HPQ : Hid (Calls Tryz.prog 46 #[.string ⟨s.toArray⟩] w fun e w' => e = .returned (.tuple #[.slice none 0 0, .iface 91 (.agg #[.int .i64 pk, .int .i64 pe])]) ∧ L = [] ∧ Below w.heap.size w w') := Lib.hid (HPP.out.mono fun e w' h => (let ⟨h1, h2⟩ := h.2.1 h0; ⟨h1, h2, h.2.2⟩))
  clear HPP h0
  go_enter Tryz.func19, Tryz.ntmps19
  go_upto_region 5 with (go_at_call 46; refine HPQ.out.mono ?_; rintro e w1 ⟨rfl, rfl, hb⟩)
  refine wp_named (fun V => ∃ t, w1.heap.size = t ∧ Blk V t [.int .i64 0, .int .i64 0] ∧ Kept [] w1 V) ⟨_, rfl, Blk.new _ _ _ _ rfl, (Kept.refl _ _).alloc _⟩ ?_
  rintro V ⟨t, et, BV, hkV⟩
  rw [et]
  have HKV : Hid (Kept [] w V) := Lib.hid (keptTrans ((Kept.refl [] w).call hb) hkV)
  have hgV : V.cell? ⟨0, 0, none⟩ = some (.iface 195 (.agg #[.pointer (some ⟨7, 79, none⟩)])) := (HKV.out.cell 0 0 hlt (by simp)).trans HG.out
  have HET := Lib.hid et
  have HAS := Lib.hid (as_any pk pe t _ _ V hgV BV)
  clear et hgV
  -- MARK1
  go_upto_region 6 with (go_at_call 47; refine HAS.out.mono ?_; rintro e w2 ⟨rfl, B2, hk2⟩)
  have ⟨L2, C2, F2⟩ := B2
  have HB2 : Hid (Below w.heap.size w w2) := Lib.hid (by
    have h1 := HKV.out.toBelow
    have h2 := hb.size
    have h3 := HET.out
    exact h1.trans (keptBelow hk2 (by simp; omega) HKV.out.size))
  clear hk2 B2
  go_quiet (fail)
  go_wp2_with fail
  go_ret3
  exact ⟨none, 0, 0, rfl, ⟨rfl, fun h => absurd h (by omega)⟩, HB2.out.trans (((Kept.refl [] w2).drewN _).toBelow.mono HB2.out.size)⟩
end Go.Proofs.YtooejoajojanjaaGreatDoor
namespace Go.Df
open Go.RowKit
namespace If
def wfs (x : Int) (s : List Int × Bool) (y : Int) : List Int × Bool := if s.2 = false ∧ x < y then (s.1 ++ [x] ++ [y], true) else (s.1 ++ [y], s.2)
def wfl (x : Int) (l : List Int) : List Int × Bool := l.foldl (wfs x) ([], false)
/-- An ascending list with one more fact. -/
def withF (l : List Int) (x : Int) : List Int := if x ∈ l then l else if (wfl x l).2 = true then (wfl x l).1 else (wfl x l).1 ++ [x]
/-- The different numbers of a list, ascending. -/
def ascF (l : List Int) : List Int := l.foldl withF []
def joinF (a b : List Int) : List Int := ascF (a ++ b)
/-- The seeds at a node. -/
def seedF (sd : List Sd) (nd : Int) : List Int := (sd.filter fun s => decide (s.n = nd)).map (·.f)
/-- What a flow function yields, with repetitions. -/
def apO (f : List Pr) (l : List Int) : List Int := (f.filter fun q => decide (q.o ≠ 0) && (decide (q.i = 0) || decide (q.i ∈ l))).map (·.o)
def applyF (f : List Pr) (l : List Int) : List Int := ascF (apO f l)
def stepF (p : Pb) (l : List Int) (k : Int) : List Int := joinF (applyF (gf p.fl k.toNat) l) (seedF p.sd (ge p.es k.toNat).b)
def alongF (p : Pb) (path : List Int) : List Int := path.foldl (stepF p) (joinF (seedF p.sd p.mn) [])
theorem wfl_gen (x : Int) : ∀ (l : List Int) (s : List Int × Bool), (l.Pairwise (· < ·)) → (∀ a ∈ s.1, ∀ b ∈ l, a < b) → s.1.Pairwise (· < ·) → x ∉ l → (s.2 = false → ∀ a ∈ s.1, a < x) → (s.2 = true → ∀ b ∈ l, x < b) →
    (l.foldl (wfs x) s).1.Pairwise (· < ·) ∧ ((l.foldl (wfs x) s).2 = false → ∀ a ∈ (l.foldl (wfs x) s).1, a < x) ∧ (∀ y, y ∈ (l.foldl (wfs x) s).1 ↔ y ∈ s.1 ∨ y ∈ l ∨ (s.2 = false ∧ (l.foldl (wfs x) s).2 = true ∧ y = x)) ∧ (s.2 = true → (l.foldl (wfs x) s).2 = true)
  | [], s, _, _, h2, _, h3, _ => by
    refine ⟨h2, h3, fun y => ?_, fun h => h⟩
    simp only [List.foldl_nil, List.not_mem_nil, false_or]
    constructor
    · exact fun h => Or.inl h
    · rintro (h | ⟨h, h', -⟩)
      · exact h
      · rw [h] at h'; cases h'
  | y :: l, s, h0, h1, h2, hx, h3, h4 => by
    rw [List.pairwise_cons] at h0
    rw [List.foldl_cons]
    have hxy : x ≠ y := fun h => hx (by rw [h]; simp)
    have hxl : x ∉ l := fun h => hx (List.mem_cons_of_mem _ h)
    by_cases hc : s.2 = false ∧ x < y
    · have e : wfs x s y = (s.1 ++ [x] ++ [y], true) := by unfold wfs; rw [if_pos hc]
      rw [e]
      have h5 := h3 hc.1
      have h6 : ∀ a ∈ s.1, a < y := fun a ha => h1 a ha y (by simp)
      obtain ⟨g1, g2, g3, g4⟩ := wfl_gen x l (s.1 ++ [x] ++ [y], true) h0.2 (fun a ha b hb => by
        simp only [List.mem_append, List.mem_singleton] at ha
        have := h0.1 b hb
        rcases ha with (ha | rfl) | rfl
        · exact h1 a ha b (List.mem_cons_of_mem _ hb)
        · omega
        · exact this) (by
        rw [List.pairwise_append, List.pairwise_append]
        refine ⟨⟨h2, by simp, fun a ha b hb => ?_⟩, by simp, fun a ha b hb => ?_⟩
        · simp only [List.mem_singleton] at hb; subst hb; exact h5 a ha
        · simp only [List.mem_singleton, List.mem_append] at hb ha; subst hb
          rcases ha with ha | rfl
          · exact h6 a ha
          · exact hc.2) hxl (fun h => by cases h) (fun _ b hb => by have := h0.1 b hb; omega)
      refine ⟨g1, g2, fun z => ?_, fun _ => g4 rfl⟩
      rw [g3]
      have := g4 rfl
      rw [hc.1, this]
      simp only [List.mem_append, List.mem_cons, List.not_mem_nil, or_false]
      grind
    · have e : wfs x s y = (s.1 ++ [y], s.2) := by unfold wfs; rw [if_neg hc]
      rw [e]
      have hyx : s.2 = false → y < x := fun h => by
        rcases Int.lt_or_le x y with h9 | h9
        · exact absurd ⟨h, h9⟩ hc
        · omega
      have h6 : ∀ a ∈ s.1, a < y := fun a ha => h1 a ha y (by simp)
      obtain ⟨g1, g2, g3, g4⟩ := wfl_gen x l (s.1 ++ [y], s.2) h0.2 (fun a ha b hb => by
        simp only [List.mem_append, List.mem_singleton] at ha
        have := h0.1 b hb
        rcases ha with ha | rfl
        · exact h1 a ha b (List.mem_cons_of_mem _ hb)
        · exact this) (by
        rw [List.pairwise_append]
        refine ⟨h2, by simp, fun a ha b hb => ?_⟩
        simp only [List.mem_singleton] at hb; subst hb; exact h6 a ha) hxl (fun h a ha => by
        simp only [List.mem_append, List.mem_singleton] at ha
        rcases ha with ha | rfl
        · exact h3 h a ha
        · exact hyx h) (fun h b hb => h4 h b (List.mem_cons_of_mem _ hb))
      refine ⟨g1, g2, fun z => ?_, g4⟩
      rw [g3]
      simp only [List.mem_append, List.mem_cons, List.not_mem_nil, or_false]
      grind
theorem withF_asc {l : List Int} (h : l.Pairwise (· < ·)) (x : Int) : (withF l x).Pairwise (· < ·) ∧ ∀ y, y ∈ withF l x ↔ y ∈ l ∨ y = x := by
  unfold withF
  by_cases hx : x ∈ l
  · rw [if_pos hx]
    exact ⟨h, fun y => ⟨fun h => Or.inl h, fun h => by rcases h with h | rfl; exact h; exact hx⟩⟩
  rw [if_neg hx]
  obtain ⟨g1, g2, g3, g4⟩ := wfl_gen x l ([], false) h (fun a ha => by simp at ha) List.Pairwise.nil hx (fun _ a ha => by simp at ha) (fun h => by cases h)
  change (wfl x l).1.Pairwise (· < ·) at g1
  change (wfl x l).2 = false → ∀ a ∈ (wfl x l).1, a < x at g2
  change ∀ y, y ∈ (wfl x l).1 ↔ y ∈ [] ∨ y ∈ l ∨ (false = false ∧ (wfl x l).2 = true ∧ y = x) at g3
  by_cases h2 : (wfl x l).2 = true
  · rw [if_pos h2]
    refine ⟨g1, fun y => ?_⟩
    rw [g3, h2]
    simp
  · rw [if_neg h2]
    have h3 : (wfl x l).2 = false := by simpa using h2
    refine ⟨?_, fun y => ?_⟩
    · rw [List.pairwise_append]
      refine ⟨g1, by simp, fun a ha b hb => ?_⟩
      simp only [List.mem_singleton] at hb; subst hb; exact g2 h3 a ha
    · rw [List.mem_append, g3, h3]
      simp
theorem foldF_asc : ∀ (l s : List Int), s.Pairwise (· < ·) → (l.foldl withF s).Pairwise (· < ·) ∧ ∀ y, y ∈ l.foldl withF s ↔ y ∈ s ∨ y ∈ l
  | [], s, h => ⟨h, fun y => by simp⟩
  | x :: l, s, h => by
    obtain ⟨h1, h2⟩ := withF_asc h x
    obtain ⟨h3, h4⟩ := foldF_asc l (withF s x) h1
    refine ⟨h3, fun y => ?_⟩
    rw [List.foldl_cons, h4, h2]
    simp only [List.mem_cons]
    grind
theorem ascF_asc (l : List Int) : (ascF l).Pairwise (· < ·) := (foldF_asc l [] List.Pairwise.nil).1
theorem ascF_mem (l : List Int) (y : Int) : y ∈ ascF l ↔ y ∈ l := by
  have := (foldF_asc l [] List.Pairwise.nil).2 y
  unfold ascF
  rw [this]; simp
/-- Two ascending lists of the same numbers are equal. -/
theorem asc_eq : ∀ {a b : List Int}, a.Pairwise (· < ·) → b.Pairwise (· < ·) → (∀ y, y ∈ a ↔ y ∈ b) → a = b
  | [], [], _, _, _ => rfl
  | [], y :: b, _, _, h => by have := (h y).2 (by simp); simp at this
  | x :: a, [], _, _, h => by have := (h x).1 (by simp); simp at this
  | x :: a, y :: b, ha, hb, h => by
    rw [List.pairwise_cons] at ha hb
    have e : x = y := by
      have h1 := (h x).1 (by simp)
      have h2 := (h y).2 (by simp)
      rw [List.mem_cons] at h1 h2
      rcases h1 with h1 | h1
      · exact h1
      · rcases h2 with h2 | h2
        · exact h2.symm
        · have := ha.1 y h2
          have := hb.1 x h1
          omega
    subst e
    congr 1
    refine asc_eq ha.2 hb.2 fun z => ?_
    have h1 := h z
    rw [List.mem_cons, List.mem_cons] at h1
    constructor
    · intro hz
      have := ha.1 z hz
      rcases h1.1 (Or.inr hz) with rfl | h3
      · omega
      · exact h3
    · intro hz
      have := hb.1 z hz
      rcases h1.2 (Or.inr hz) with rfl | h3
      · omega
      · exact h3
theorem asc_ascF {a : List Int} (l : List Int) (ha : a.Pairwise (· < ·)) (h : ∀ y, y ∈ a ↔ y ∈ l) : a = ascF l := asc_eq ha (ascF_asc l) fun y => (h y).trans (ascF_mem l y).symm
/-- What Sort and Compact leave of a list. -/
theorem compact_sorted (l : List Int) (hs : l.Pairwise (· ≤ ·)) : (Lib.compact l).Pairwise (· < ·) ∧ ∀ y, y ∈ Lib.compact l ↔ y ∈ l := by
  have hget : ∀ j, l.toArray[j]! = l.getD j 0 := fun j => by simp [List.getD, getElem!_def]; cases l[j]? <;> rfl
  have hk : ∀ j, j < l.length → (Lib.keeps l.toArray j = true ↔ (j = 0 ∨ l.getD j 0 ≠ l.getD (j - 1) 0)) := fun j _ => by unfold Lib.keeps; rw [hget, hget]; simp
  have hle : ∀ i j, i ≤ j → j < l.length → l.getD i 0 ≤ l.getD j 0 := fun i j hij hj => by
    rw [List.getD_eq_getElem?_getD, List.getD_eq_getElem?_getD, List.getElem?_eq_getElem (by omega), List.getElem?_eq_getElem hj]
    rcases Nat.lt_or_eq_of_le hij with h | rfl
    · exact List.pairwise_iff_getElem.1 hs i j (by omega) hj h
    · exact Int.le_refl _
  constructor
  · unfold Lib.compact Lib.compactUpTo
    rw [List.pairwise_map]
    have h1 : (List.range l.length).Pairwise (· < ·) := List.pairwise_lt_range
    have h2 := h1.filter (p := Lib.keeps l.toArray)
    refine List.Pairwise.imp_of_mem ?_ h2
    intro i j _ hj hij
    rw [List.mem_filter, List.mem_range] at hj
    have hj2 := (hk j hj.1).1 hj.2
    rw [hget, hget]
    have := hle i (j - 1) (by omega) (by omega)
    have := hle (j - 1) j (by omega) hj.1
    rcases hj2 with h | h
    · omega
    · omega
  · intro y
    unfold Lib.compact Lib.compactUpTo
    rw [List.mem_map]
    constructor
    · rintro ⟨j, hj, rfl⟩
      rw [List.mem_filter, List.mem_range] at hj
      rw [hget, List.getD_eq_getElem?_getD, List.getElem?_eq_getElem hj.1]
      exact List.getElem_mem hj.1
    · intro hy
      obtain ⟨j, hj, rfl⟩ := List.getElem_of_mem hy
      have : ∀ j, (hj : j < l.length) → ∃ a, a ∈ List.filter (Lib.keeps l.toArray) (List.range l.length) ∧ l.toArray[a]! = l.getD j 0 := by
        intro j
        induction j with
        | zero => exact fun hj => ⟨0, by rw [List.mem_filter, List.mem_range]; exact ⟨hj, (hk 0 hj).2 (Or.inl rfl)⟩, hget 0⟩
        | succ j ih =>
          intro hj
          by_cases he : l.getD (j + 1) 0 = l.getD j 0
          · rw [he]; exact ih (by omega)
          · exact ⟨j + 1, by rw [List.mem_filter, List.mem_range]; exact ⟨hj, (hk (j + 1) hj).2 (Or.inr (by simpa using he))⟩, hget _⟩
      obtain ⟨a, h1, h2⟩ := this j hj
      refine ⟨a, h1, ?_⟩
      rw [h2, List.getD_eq_getElem?_getD, List.getElem?_eq_getElem hj]
      rfl
theorem sorted_compact (l : List Int) : Lib.compact (l.mergeSort fun x y => decide (x ≤ y)) = ascF l := by
  have hs : (l.mergeSort fun x y => decide (x ≤ y)).Pairwise (· ≤ ·) := by
    have h := List.pairwise_mergeSort (le := fun x y : Int => decide (x ≤ y)) (fun a b c h1 h2 => by simp at *; omega) (fun a b => by simp; omega) l
    exact h.imp (fun h => by simpa using h)
  obtain ⟨h1, h2⟩ := compact_sorted _ hs
  exact asc_ascF l h1 fun y => (h2 y).trans ((List.mergeSort_perm l _).mem_iff)
/-- The state of WithFact behind i elements. -/
def wfi (x : Int) (l : List Int) (i : Nat) : List Int × Bool := (l.take i).foldl (wfs x) ([], false)
theorem wfi_succ {x : Int} {l : List Int} {i : Nat} (hi : i < l.length) : wfi x l (i + 1) = wfs x (wfi x l i) (gi l i) := by
  unfold wfi
  rw [List.take_add_one, List.foldl_append, gi_lt hi]
  simp [hi]
theorem wfi_all {x : Int} {l : List Int} {n : Nat} (h : l.length ≤ n) : wfi x l n = wfl x l := by
  unfold wfi wfl
  rw [List.take_of_length_le h]
theorem wfl_len (x : Int) : ∀ (l : List Int) (s : List Int × Bool), (l.foldl (wfs x) s).1.length + (if (l.foldl (wfs x) s).2 = true then 0 else 1) = s.1.length + l.length + (if s.2 = true then 0 else 1)
  | [], s => by simp only [List.foldl_nil, List.length_nil, Nat.add_zero]; rfl
  | y :: l, s => by
    rw [List.foldl_cons, wfl_len x l (wfs x s y)]
    unfold wfs
    split
    · rename_i h; simp [h.1]; omega
    · simp; omega
theorem withF_len (l : List Int) (x : Int) : (withF l x).length ≤ l.length + 1 := by
  have h := wfl_len x l ([], false)
  unfold withF wfl
  split
  · omega
  · split
    · rename_i h2; rw [h2] at h; simp at h; omega
    · rename_i h2
      rw [List.length_append]
      simp at h2 h
      rw [h2] at h
      simp at h
      simp
      omega
def foF (f s : List Int) (i : Nat) : List Int := (f.take i).foldl withF s
theorem foF_succ {f s : List Int} {i : Nat} (hi : i < f.length) : foF f s (i + 1) = withF (foF f s i) (gi f i) := by
  unfold foF
  rw [List.take_add_one, List.foldl_append, gi_lt hi]
  simp [hi]
theorem foF_all {f s : List Int} {n : Nat} (h : f.length ≤ n) : foF f s n = f.foldl withF s := by
  unfold foF
  rw [List.take_of_length_le h]
theorem foF_len (f s : List Int) : ∀ i, (foF f s i).length ≤ s.length + i
  | 0 => by simp [foF]
  | i + 1 => by
    by_cases h : i < f.length
    · rw [foF_succ h]
      have := withF_len (foF f s i) (gi f i)
      have := foF_len f s i
      omega
    · have e : foF f s (i + 1) = foF f s i := by unfold foF; rw [List.take_of_length_le (by omega), List.take_of_length_le (by omega)]
      rw [e]
      have := foF_len f s i
      omega
theorem ascF_len (l : List Int) : (ascF l).length ≤ l.length := by
  have h := foF_len l [] l.length
  rw [foF_all (Nat.le_refl _)] at h
  simpa [ascF] using h
theorem applyF_len (f : List Pr) (l : List Int) : (applyF f l).length ≤ f.length := by
  have h := ascF_len (apO f l)
  have h2 : (apO f l).length ≤ f.length := by unfold apO; rw [List.length_map]; exact List.length_filter_le _ _
  exact Nat.le_trans h h2
/-- The seeds at a node among the first i. -/
def seedI (l : List Sd) (nd : Int) (i : Nat) : List Int := seedF (l.take i) nd
/-- What the first i pairs yield. -/
def apI (f : List Pr) (l : List Int) (i : Nat) : List Int := apO (f.take i) l
theorem apI_succ {f : List Pr} {l : List Int} {i : Nat} (h : i < f.length) : apI f l (i + 1) = apI f l i ++ (if (gp f i).o ≠ 0 ∧ ((gp f i).i = 0 ∨ (gp f i).i ∈ l) then [(gp f i).o] else []) := by
  unfold apI apO
  rw [List.take_add_one, List.filter_append, List.map_append, gp_lt h, List.getElem?_eq_getElem h]
  congr 1
  by_cases e : f[i].o ≠ 0 ∧ (f[i].i = 0 ∨ f[i].i ∈ l)
  · rw [if_pos e]
    obtain ⟨e1, e2⟩ := e
    rcases e2 with e2 | e2
    · simp [e1, e2]
    · simp [e1, e2]
  · rw [if_neg e]
    have h9 : ¬ f[i].o = 0 → ¬ f[i].i = 0 ∧ ¬ f[i].i ∈ l := fun h8 => ⟨fun h7 => e ⟨h8, Or.inl h7⟩, fun h7 => e ⟨h8, Or.inr h7⟩⟩
    simpa using h9
theorem apI_all {f : List Pr} {l : List Int} {n : Nat} (h : f.length ≤ n) : apI f l n = apO f l := by
  unfold apI
  rw [List.take_of_length_le h]
theorem apI_len (f : List Pr) (l : List Int) (i : Nat) : (apI f l i).length ≤ i := by
  unfold apI apO
  rw [List.length_map]
  exact Nat.le_trans (List.length_filter_le _ _) (by rw [List.length_take]; omega)
end If
theorem ints_snoc (l : List Int) (x : Int) : l.map (Value.int .i64) ++ [.int .i64 x] = (l ++ [x]).map (Value.int .i64) := by simp
theorem Ints.ofOwn {w : World} {base : Nat} {e : TypeId} {A : Option Addr} {n c : Nat} {l : List Int} (h : w.ownsRow base e 1 (.slice A n c) n (l.map (Value.int .i64))) : Ints w A n l ∧ n ≤ c := by
  have hl : l.length = n := by simpa using h.1
  by_cases h0 : 0 < n
  · obtain ⟨g, c', hv, hb, hg, hc, -, hcell, -⟩ := own_cellsT h h0
    injection hv with e1 e2 e3
    subst e1
    subst e3
    refine ⟨⟨hl, fun _ => ⟨g, 0, rfl, hg, fun i hi => ?_⟩⟩, hc⟩
    rw [Nat.zero_add, hcell i (by omega), List.getElem?_map, List.getElem?_eq_getElem (by omega), gi_lt (by omega)]
    rfl
  · exact ⟨⟨hl, fun h => absurd h h0⟩, by omega⟩
/-- A list of facts comes back. -/
def GetF (w : World) (l : List Int) (e : Ending) (w' : World) : Prop := ∃ A n c, e = .returned (.slice A n c) ∧ Ints w' A n l ∧ n ≤ c ∧ Below w.heap.size w w'
end Go.Df
namespace Go.Proofs.YtooejoajojanjaaGreatDoor
open Go.RowKit Go.Df Go.Df.If
attribute [local go_sem ↓] Go.wp_at_zero Go.wp_at_succ
theorem intf_info : (Tryz.prog.info? 3).map (fun i => (i.zero, i.size, i.bytes)) = some (some (.int .i64 0), 1, 8) := by kernel_rfl
set_option maxRecDepth 100000 in
set_option maxHeartbeats 8000000 in
theorem rwithf_any (A : Option Addr) (n c : Nat) (l : List Int) (x : Int) (w : World) (hp : Ints w A n l) (hn : n ≤ 100000) (hnc : n ≤ c) :
    Calls Tryz.prog 71 #[.slice A n c, .int .i64 x] w (GetF w (withF l x)) := by
  obtain ⟨i1, hj, hy0, hy1, hy2⟩ := info_parts intf_info
  have HP := Lib.hid hp
  have HL := Lib.hid hp.1
  clear hp
  go_enter Tryz.func71, Tryz.ntmps71
  go_wp2_with fail
  go_loopw [5, 6, 7] (fun s5 s6 s7 wr => ∃ (i : Nat) (B : Option Addr) (k cB : Nat) (o : List Int) (pt : Bool), i ≤ n ∧ s7 = .int .i64 i ∧ s6 = .bool pt ∧ s5 = .slice B k cB ∧ Kept [] w wr ∧ Hid (wfi x l i = (o, pt)) ∧ o.length = k ∧ k ≤ 2 * i ∧ Hid (wr.ownsRow w.heap.size 3 1 (.slice B k cB) k (o.map (Value.int .i64))) ∧ Hid (∀ j, j < i → gi l j ≠ x)) (fun _ _ s7 _ => n - (intOf s7).toNat)
  case atStart => exact ⟨0, none, 0, 0, [], false, Nat.zero_le _, rfl, rfl, rfl, Kept.refl _ _, Lib.hid rfl, rfl, by omega, Lib.hid (World.ownsRow_nil _ _ _ _), Lib.hid (fun j h => absurd h (by omega))⟩
  case round =>
  obtain ⟨i, B, k, cB, o, pt, hi', rfl, rfl, rfl, hkr, HW, hok, hki, own, HNE⟩ := hrel
  have hsr := hkr.size
  have HOK := Lib.hid hok
  have HX : Hid (∀ y ∈ (Value.slice B k cB).ownBlock.toList, w.heap.size ≤ y) := (fun y hy => own_ge own.out (by simpa using hy))
  clear hok
  by_cases hlt : i < n
  case neg =>
    obtain rfl : i = n := by omega
    have HNM : Hid (¬ x ∈ l) := Lib.hid (fun hm => by
      obtain ⟨j, hj, e⟩ := List.getElem_of_mem hm
      exact HNE.out j (by rw [← HL.out]; exact hj) (by rw [gi_lt hj]; exact e))
    have HWL : Hid (wfl x l = (o, pt)) := Lib.hid (by rw [← wfi_all (Nat.le_of_eq HL.out)]; exact HW.out)
    cases pt with
    | true =>
      have HR : Hid (withF l x = o) := Lib.hid (by unfold withF; rw [if_neg HNM.out, HWL.out, if_pos rfl])
      go_wp2_with fail
      go_ret
      obtain ⟨h1, h2⟩ := Ints.ofOwn own.out
      exact ⟨B, k, cB, rfl, by rw [HR.out]; exact h1, h2, hkr.toBelow⟩
    | false =>
      have HR : Hid (withF l x = o ++ [x]) := Lib.hid (by unfold withF; rw [if_neg HNM.out, HWL.out, if_neg (by simp)])
      have HAP := Lib.hid (ints_snoc o x)
      go_wp2_with (at_builtin; refine wpList_append_rd _ rfl _ _ 31 rfl w.heap.size 3 i1 (.int .i64 0) 1 8 Tryz.underlying31 hj hy0 hy1 hy2 rfl (by decide) (.slice B k cB) k _ rfl (own_keptT (X := []) own.out ((Kept.refl _ _).alloc _) (by simp)) (some ⟨wr.heap.size, 0, none⟩) 1 1 [.int .i64 x] rfl (Rd.new1 _ _ _ _ rfl) (fun h => by cases h) (by intro u hu; simp at hu; subst hu; rfl) (k + 1) rfl _ HAP.out (by unfold maxLen; omega) (by omega) (by simp; omega) ?_; intro A9 c9 w9 hown4 hk4 hat4; have hk5 := Lib.hid ((hkr.alloc (.cells #[.int .i64 x] 3)).next hk4 (fun y hy => Or.inr (HX.out y hy))); have HO4 := Lib.hid hown4; clear hown4 hk4 hat4)
      go_ret
      obtain ⟨h1, h2⟩ := Ints.ofOwn (l := o ++ [x]) HO4.out
      exact ⟨A9, k + 1, c9, rfl, by rw [HR.out]; exact h1, h2, hk5.out.toBelow⟩
  obtain ⟨b, o1, rfl, hl0, hc⟩ := HP.out.2 (by omega)
  have hl : b < wr.heap.size := Nat.lt_of_lt_of_le hl0 hsr
  have h1 := (hkr.cell b _ hl0 (by simp)).trans (hc i hlt)
  obtain ⟨y, en⟩ : ∃ y, gi l i = y := ⟨_, rfl⟩
  rw [en] at h1
  have HEN := Lib.hid en
  have hi9 : (i : Int) < (n : Int) := by omega
  clear hc en
  by_cases heq : y = x
  · subst heq
    have HR : Hid (withF l y = l) := Lib.hid (by
      unfold withF
      rw [if_pos (by rw [← HEN.out, gi_lt (by rw [HL.out]; exact hlt)]; exact List.getElem_mem _)])
    go_wp2_with fail
    go_ret
    exact ⟨_, n, c, rfl, by rw [HR.out]; exact HP.out.kept hkr, hnc, hkr.toBelow⟩
  have z0 : (y == x) = false := by simpa using heq
  have HNE2 : Hid (∀ j, j < i + 1 → gi l j ≠ x) := Lib.hid (fun j hj => by
    rcases Nat.lt_or_ge j i with h9 | h9
    · exact HNE.out j h9
    · have hji : j = i := by omega
      rw [hji, HEN.out]
      exact heq)
  have HWS : Hid (wfi x l (i + 1) = wfs x (o, pt) y) := Lib.hid (by rw [wfi_succ (by rw [HL.out]; exact hlt), HW.out, HEN.out])
  clear heq
  have HAP := Lib.hid (ints_snoc o y)
  cases pt with
  | true =>
    have HW2 : Hid (wfi x l (i + 1) = (o ++ [y], true)) := Lib.hid (by rw [HWS.out]; unfold wfs; rw [if_neg (by simp)])
    go_wp2_with (at_builtin; refine wpList_append_rd _ rfl _ _ 31 rfl w.heap.size 3 i1 (.int .i64 0) 1 8 Tryz.underlying31 hj hy0 hy1 hy2 rfl (by decide) (.slice B k cB) k _ rfl (own_keptT (X := []) own.out ((Kept.refl _ _).alloc _) (by simp)) (some ⟨wr.heap.size, 0, none⟩) 1 1 [.int .i64 y] rfl (Rd.new1 _ _ _ _ rfl) (fun h => by cases h) (by intro u hu; simp at hu; subst hu; rfl) (k + 1) rfl _ HAP.out (by unfold maxLen; omega) (by omega) (by simp; omega) ?_; intro A9 c9 w9 hown4 hk4 hat4; have hk5 := Lib.hid ((hkr.alloc (.cells #[.int .i64 y] 3)).next hk4 (fun y hy => Or.inr (HX.out y hy))); have HO4 := Lib.hid hown4; clear hown4 hk4 hat4)
    exact ⟨⟨i + 1, A9, k + 1, c9, o ++ [y], true, by omega, by go_num, rfl, rfl, hk5.out, HW2, by rw [List.length_append, HOK.out]; rfl, by omega, HO4, HNE2⟩, by simp [intOf]; omega⟩
  | false =>
    by_cases hxy : x < y
    · have z1 : decide (x < y) = true := by simpa using hxy
      have HW2 : Hid (wfi x l (i + 1) = (o ++ [x] ++ [y], true)) := Lib.hid (by rw [HWS.out]; unfold wfs; rw [if_pos ⟨rfl, hxy⟩])
      have HAPx := Lib.hid (ints_snoc o x)
      have HAPy := Lib.hid (ints_snoc (o ++ [x]) y)
      clear hxy
      go_upto_region 10 with (at_builtin; refine wpList_append_rd _ rfl _ _ 31 rfl w.heap.size 3 i1 (.int .i64 0) 1 8 Tryz.underlying31 hj hy0 hy1 hy2 rfl (by decide) (.slice B k cB) k _ rfl (own_keptT (X := []) own.out ((Kept.refl _ _).alloc _) (by simp)) (some ⟨wr.heap.size, 0, none⟩) 1 1 [.int .i64 x] rfl (Rd.new1 _ _ _ _ rfl) (fun h => by cases h) (by intro u hu; simp at hu; subst hu; rfl) (k + 1) rfl _ HAPx.out (by unfold maxLen; omega) (by omega) (by simp; omega) ?_; intro A8 c8 w8 hown4 hk4 hat4; have hk8 := Lib.hid ((hkr.alloc (.cells #[.int .i64 x] 3)).next hk4 (fun y hy => Or.inr (HX.out y hy))); have HO8 := Lib.hid hown4; clear hown4 hk4 hat4)
      have HX8 : Hid (∀ y ∈ (Value.slice A8 (k + 1) c8).ownBlock.toList, w.heap.size ≤ y) := (fun y hy => own_ge HO8.out (by simpa using hy))
      have hs8 := hk8.out.size
      have hl8 : b < w8.heap.size := Nat.lt_of_lt_of_le hl0 hs8
      have h18 := (hk8.out.cell b _ hl0 (by simp)).trans ((hkr.cell b _ hl0 (by simp)).symm.trans h1)
      go_wp2_with (at_builtin; refine wpList_append_rd _ rfl _ _ 31 rfl w.heap.size 3 i1 (.int .i64 0) 1 8 Tryz.underlying31 hj hy0 hy1 hy2 rfl (by decide) (.slice A8 (k + 1) c8) (k + 1) _ rfl (own_keptT (X := []) HO8.out ((Kept.refl _ _).alloc _) (by simp)) (some ⟨w8.heap.size, 0, none⟩) 1 1 [.int .i64 y] rfl (Rd.new1 _ _ _ _ rfl) (fun h => by cases h) (by intro u hu; simp at hu; subst hu; rfl) ((k + 1) + 1) rfl _ HAPy.out (by unfold maxLen; omega) (by omega) (by simp; omega) ?_; intro A9 c9 w9 hown4 hk4 hat4; have hk5 := Lib.hid ((hk8.out.alloc (.cells #[.int .i64 y] 3)).next hk4 (fun y hy => Or.inr (HX8.out y hy))); have HO4 := Lib.hid hown4; clear hown4 hk4 hat4)
      exact ⟨⟨i + 1, A9, k + 1 + 1, c9, o ++ [x] ++ [y], true, by omega, by go_num, rfl, rfl, hk5.out, HW2, by rw [List.length_append, List.length_append, HOK.out]; rfl, by omega, HO4, HNE2⟩, by simp [intOf]; omega⟩
    · have z1 : decide (x < y) = false := by simpa using hxy
      have HW2 : Hid (wfi x l (i + 1) = (o ++ [y], false)) := Lib.hid (by rw [HWS.out]; unfold wfs; rw [if_neg (by simp [hxy])])
      clear hxy
      go_wp2_with (at_builtin; refine wpList_append_rd _ rfl _ _ 31 rfl w.heap.size 3 i1 (.int .i64 0) 1 8 Tryz.underlying31 hj hy0 hy1 hy2 rfl (by decide) (.slice B k cB) k _ rfl (own_keptT (X := []) own.out ((Kept.refl _ _).alloc _) (by simp)) (some ⟨wr.heap.size, 0, none⟩) 1 1 [.int .i64 y] rfl (Rd.new1 _ _ _ _ rfl) (fun h => by cases h) (by intro u hu; simp at hu; subst hu; rfl) (k + 1) rfl _ HAP.out (by unfold maxLen; omega) (by omega) (by simp; omega) ?_; intro A9 c9 w9 hown4 hk4 hat4; have hk5 := Lib.hid ((hkr.alloc (.cells #[.int .i64 y] 3)).next hk4 (fun y hy => Or.inr (HX.out y hy))); have HO4 := Lib.hid hown4; clear hown4 hk4 hat4)
      exact ⟨⟨i + 1, A9, k + 1, c9, o ++ [y], false, by omega, by go_num, rfl, rfl, hk5.out, HW2, by rw [List.length_append, HOK.out]; rfl, by omega, HO4, HNE2⟩, by simp [intOf]; omega⟩
end Go.Proofs.YtooejoajojanjaaGreatDoor
namespace Go.Proofs.YtooejoajojanjaaGreatDoor
open Go.Shelf
def laySr : Go.Shelf.Ren := ⟨fun | 189 => 69 | 125 => 112 | 257 => 111 | 128 => 156 | 129 => 157 | 294 => 147 | 295 => 148 | 296 => 149 | 297 => 150 | 298 => 151 | 299 => 152 | 216 => 153 | 300 => 154 | 301 => 155 | 328 => 172 | 329 => 173 | 330 => 174 | 331 => 175 | 332 => 176 | 215 => 110 | 343 => 191 | n => n, fun | 28 => 31 | 3 => 3 | 46 => 186 | 0 => 0 | 51 => 242 | 53 => 225 | 4 => 4 | 183 => 236 | 182 => 235 | 131 => 190 | 5 => 5 | 9 => 9 | 218 => 256 | 222 => 260 | 228 => 269 | 229 => 177 | n => n, fun | n => n⟩
theorem layS : Go.Proofs.Lays.n189 Tryz.prog laySr := {
  mixed := by kernel_rfl
  f125 := Tryz.func112.trans (congrArg some (by kernel_rfl))
  f128 := Tryz.func156.trans (congrArg some (by kernel_rfl))
  f129 := Tryz.func157.trans (congrArg some (by kernel_rfl))
  f189 := Tryz.func69.trans (congrArg some (by kernel_rfl))
  f215 := Tryz.func110.trans (congrArg some (by kernel_rfl))
  f216 := Tryz.func153.trans (congrArg some (by kernel_rfl))
  f257 := Tryz.func111.trans (congrArg some (by kernel_rfl))
  f294 := Tryz.func147.trans (congrArg some (by kernel_rfl))
  f295 := Tryz.func148.trans (congrArg some (by kernel_rfl))
  f296 := Tryz.func149.trans (congrArg some (by kernel_rfl))
  f297 := Tryz.func150.trans (congrArg some (by kernel_rfl))
  f298 := Tryz.func151.trans (congrArg some (by kernel_rfl))
  f299 := Tryz.func152.trans (congrArg some (by kernel_rfl))
  f300 := Tryz.func154.trans (congrArg some (by kernel_rfl))
  f301 := Tryz.func155.trans (congrArg some (by kernel_rfl))
  f328 := Tryz.func172.trans (congrArg some (by kernel_rfl))
  f329 := Tryz.func173.trans (congrArg some (by kernel_rfl))
  f330 := Tryz.func174.trans (congrArg some (by kernel_rfl))
  f331 := Tryz.func175.trans (congrArg some (by kernel_rfl))
  f332 := Tryz.func176.trans (congrArg some (by kernel_rfl))
  f343 := Tryz.func191.trans (congrArg some (by kernel_rfl))
  t0 := Tryz.underlying0
  a0 := Tryz.isAgg0
  z0 := Tryz.sizeOf0
  v0 := Tryz.zeroValue0
  t3 := Tryz.underlying3
  a3 := Tryz.isAgg3
  z3 := Tryz.sizeOf3
  v3 := Tryz.zeroValue3
  t4 := Tryz.underlying4
  a4 := Tryz.isAgg4
  z4 := Tryz.sizeOf4
  v4 := Tryz.zeroValue4
  t5 := Tryz.underlying5
  a5 := Tryz.isAgg5
  z5 := Tryz.sizeOf5
  v5 := Tryz.zeroValue5
  t9 := Tryz.underlying9
  a9 := Tryz.isAgg9
  z9 := Tryz.sizeOf9
  v9 := Tryz.zeroValue9
  t28 := Tryz.underlying31
  a28 := Tryz.isAgg31
  z28 := Tryz.sizeOf31
  v28 := Tryz.zeroValue31
  t46 := Tryz.underlying186
  a46 := Tryz.isAgg186
  z46 := Tryz.sizeOf186
  v46 := Tryz.zeroValue186
  t51 := Tryz.underlying242
  a51 := Tryz.isAgg242
  z51 := Tryz.sizeOf242
  v51 := Tryz.zeroValue242
  t53 := Tryz.underlying225
  a53 := Tryz.isAgg225
  z53 := Tryz.sizeOf225
  v53 := Tryz.zeroValue225
  t131 := Tryz.underlying190
  a131 := Tryz.isAgg190
  z131 := Tryz.sizeOf190
  v131 := Tryz.zeroValue190
  t182 := Tryz.underlying235
  a182 := Tryz.isAgg235
  z182 := Tryz.sizeOf235
  v182 := Tryz.zeroValue235
  t183 := Tryz.underlying236
  a183 := Tryz.isAgg236
  z183 := Tryz.sizeOf236
  v183 := Tryz.zeroValue236
  t218 := Tryz.underlying256
  a218 := Tryz.isAgg256
  z218 := Tryz.sizeOf256
  v218 := Tryz.zeroValue256
  t222 := Tryz.underlying260
  a222 := Tryz.isAgg260
  z222 := Tryz.sizeOf260
  v222 := Tryz.zeroValue260
  t228 := Tryz.underlying269
  a228 := Tryz.isAgg269
  z228 := Tryz.sizeOf269
  v228 := Tryz.zeroValue269
  t229 := Tryz.underlying177
  a229 := Tryz.isAgg177
  z229 := Tryz.sizeOf177
  v229 := Tryz.zeroValue177 }
def layCr : Go.Shelf.Ren := ⟨fun | 20 => 70 | n => n, fun | 22 => 31 | 3 => 3 | 4 => 4 | 0 => 0 | n => n, fun | n => n⟩
theorem layC : Go.Proofs.Lays2.n20 Tryz.prog layCr := {
  mixed := by kernel_rfl
  f20 := Tryz.func70.trans (congrArg some (by kernel_rfl))
  t0 := Tryz.underlying0
  a0 := Tryz.isAgg0
  z0 := Tryz.sizeOf0
  v0 := Tryz.zeroValue0
  t3 := Tryz.underlying3
  a3 := Tryz.isAgg3
  z3 := Tryz.sizeOf3
  v3 := Tryz.zeroValue3
  t4 := Tryz.underlying4
  a4 := Tryz.isAgg4
  z4 := Tryz.sizeOf4
  v4 := Tryz.zeroValue4
  t22 := Tryz.underlying31
  a22 := Tryz.isAgg31
  z22 := Tryz.sizeOf31
  v22 := Tryz.zeroValue31
  i3 := by kernel_rfl }
end Go.Proofs.YtooejoajojanjaaGreatDoor
namespace Go.Proofs.YtooejoajojanjaaGreatDoor
open Go.RowKit Go.Df Go.WideMaps
theorem Tryz.zeroBool (w : World) : (zeroValue 4).run Tryz.prog w = .ok (.bool false) w := by kernel_rfl
theorem Tryz.undInt : Tryz.prog.underlying 3 = some (.int .i64) := by kernel_rfl
theorem Tryz.undBool : Tryz.prog.underlying 4 = some .bool := by kernel_rfl
theorem Tryz.lawInt : Maps.Keyed Tryz.prog 3 := Maps.int_keyed Tryz.undInt
theorem Tryz.keyInt (a : Int) (h : (Lit.int .i64 a).wf = true) : keyOf Tryz.prog 3 (.int .i64 a) = some (.int .i64 a) := Maps.keyOf_int_mk Tryz.undInt h
end Go.Proofs.YtooejoajojanjaaGreatDoor
namespace Go.Proofs.YtooejoajojanjaaGreatDoor
open Go.RowKit Go.Df
attribute [local go_sem ↓] Go.wp_at_zero Go.wp_at_succ
end Go.Proofs.YtooejoajojanjaaGreatDoor
namespace Go.Df
open Go.RowKit Go.Maps Go.ChangeMaps
theorem wpList_wanted {P : Program} {w : World} {ops : Array Oper} {rest : List Oper} {o : Oper} {a : Act} {Q : Exit → Act → World → Prop} (hw : Region.wanted o (yielded ops a.tmps) = true)
    (h : ∀ K : Act → World → Prop, (∀ a w, wpList P ops Q rest a w → K a w) → o.wp P a w K Q) : wpList P ops Q (o :: rest) a w :=
  wpList_step fun K hK => by simp only [hw, if_true]; exact h K hK
theorem wpList_look_boolg {P : Program} (w : World) {ops : Array Oper} {rest : List Oper} {o : Oper} {a : Act} {Q : Exit → Act → World → Prop}
    (hg : Region.wanted o (yielded ops a.tmps) = true) (m x : Operand) (t : TypeId) (hop : o.op = Op.lookup t m x false)
    (k e : TypeId) (K : Maps.Keyed P k) (ht : P.underlying t = some (.map k e)) (he : P.underlying e = some .bool) (hz : (zeroValue e).run P w = .ok (.bool false) w) (b n : Nat) (f : Value → Lit)
    (hm : a.eval m = .map (some b)) (hown : MapV P k e (.bool false) w b n f) (key : Value) (kl : Lit) (hx : a.eval x = key) (hkey : keyOf P k key = some kl) (c : Bool) (hc : f key = .bool c)
    (hK : wpList P ops Q rest (a.put o.dst (.bool c)) w) : wpList P ops Q (o :: rest) a w := by
  refine wpList_wanted hg fun K' hK' => ?_
  have hrun := hown.look_bool K ht he hz hkey hc
  unfold Oper.wp
  simp [execOp, hop, hm, hx, hrun, Result.andThen]
  exact hK' _ _ hK
namespace Sp
def inB (x : Int) (n : Nat) : Bool := decide (0 ≤ x) && decide (x < n)
/-- The error of an edge's fields. -/
def fieldErr (N : Nat) (ea eb ek ec : Int) : Int :=
  if ea < 0 ∨ (N : Int) ≤ ea ∨ eb < 0 ∨ (N : Int) ≤ eb then 4
  else if ek < 1 ∨ 5 < ek then 12
  else if ((ek = 1 ∨ ek = 5) ∧ ec ≠ -1) ∨ (ek ≠ 1 ∧ ek ≠ 5 ∧ (ec < 0 ∨ (N : Int) ≤ ec)) then 4 else 0
/-- Does an edge join what its kind may join, in the program's words? -/
def matchN (ek ec ea : Int) (fr td cl : Nd) (cb : Bool) : Bool :=
  if ek = 1 then decide (fr.f = td.f) && (decide (fr.k = 1) || decide (fr.k = 2)) && decide (td.k ≠ 1)
  else if ek = 5 then decide (fr.f = td.f) && decide (fr.k = 2) && decide (td.k ≠ 1)
  else if ek = 2 then decide (fr.k = 2) && decide (ec = ea) && decide (td.k = 1)
  else decide (fr.k = if ek = 4 then 4 else 3) && decide (cl.k = 2) && cb && decide (td.f = cl.f) && decide (td.k ≠ 1)
end Sp
end Go.Df
namespace Go.Proofs.YtooejoajojanjaaGreatDoor
open Go.RowKit Go.Df
attribute [local go_sem ↓] Go.wp_at_zero Go.wp_at_succ
end Go.Proofs.YtooejoajojanjaaGreatDoor
