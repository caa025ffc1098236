/- Texts: Ao Kc Ap Cy Cz Al Am Cg. -/
import Derived.Test.YtincpmdldpakkaaGreatDoorRc25
import Derived.Test.YtincpmdldpakkaaGreatDoorRc22
import Derived.Test.YtincpmdldpakkaaGreatDoorRc02
import Derived.Maps.RangeWalk
import Derived.Laws.IdiomRangeMap
import Derived.Test.YtincpmdldpakkaaGreatDoorRc18
import Derived.Test.YtincpmdldpakkaaGreatDoorRc17
import Derived.Test.YtincpmdldpakkaaGreatDoorRc19
namespace Go.Proofs.YtincpmdldpakkaaGreatDoor
open Go.RowKit Go.Df Go.Df.Iv Go.Df.Sp
attribute [local go_sem ↓] Go.wp_at_zero Go.wp_at_succ
theorem Inp.kept8 {p : Vb} {K : Kn} {w w' : World} (h : Inp p K w) (hk : Kept [] w w') : Inp p K w' := by
 have hb := hk.toBelow
 refine ⟨h.nd.later hb, h.ed.later hb, h.fl.later hb, h.sd.later hb, fun b o i A n c e hi hc => ?_⟩
 obtain ⟨b', o', e', hl, hc'⟩ := h.fl.2 (by omega)
 rw [e] at e'
 injection e' with e'
 injection e' with e1 e2
 subst e1 e2
 exact h.fc b o i A n c e hi ((hb.cell (p := ⟨b, _, none⟩) hl).symm.trans hc)
def GetTb (p : Vb) (K0 : Kn) (w : World) (e : Ending) (w' : World) : Prop :=
 ∃ (w0 : World) (K : Kn) (g : Nat) (O : Nat → Prop) (G : Gh) (s : St), e = .returned (.pointer (some ⟨g, 0, none⟩)) ∧ Below w.heap.size w w0 ∧ Inp p K w0 ∧ Mem p K w0 g O G w' s ∧ Tab p 0 [] s ∧ s.q = [] ∧ K.n1 = K0.n1
set_option maxRecDepth 100000 in
set_option maxHeartbeats 8000000 in
theorem tab_any {p : Vb} {K0 : Kn} (w : World) (mN f : Nat) (hI : Inp p K0 w) (hgv : Gv w) (ho : VOk p) (hf : VFit p) (hmn : p.mn = (mN : Int)) (hF : p.F = (f : Int)) (hn4 : K0.n4 ≤ 1000000) (hmu : mu0 p ≤ 1000000) :
   Calls Tryz.prog 32 #[.agg #[.slice K0.A1 K0.n1 K0.c1, .slice K0.A2 K0.n2 K0.c2, .int .i64 (mN : Nat), .int .i64 (f : Nat), .slice K0.A3 K0.n3 K0.c3, .slice K0.A4 K0.n4 K0.c4]] w (GetTb p K0 w) := by
 have HI := Lib.hid hI
 have HGV := Lib.hid hgv
 have HO := Lib.hid ho
 have HFI := Lib.hid hf
 have HMN := Lib.hid hmn
 have HF := Lib.hid hF
 have HMU := Lib.hid hmu
 have hmain := If.main_in (If.sup_parts ho.sup).2.2.1
 have hmnN : mN < p.ns.length := by omega
 have hF0 : 0 < p.F.toNat := by have := ho.f1; omega
 have hsdn : p.sd.length ≤ 1000000 := by have := hI.sd.1; omega
 clear hI hgv ho hf hmn hF hmu hmain
 go_enter Tryz.func32, Tryz.ntmps32
 go_upto_region 1 with fail
 refine wp_named (fun W => ∃ b0, w.heap.size = b0 ∧ Blk W b0 [.slice K0.A1 K0.n1 K0.c1, .slice K0.A2 K0.n2 K0.c2, .int .i64 (mN : Nat), .int .i64 (f : Nat), .slice K0.A3 K0.n3 K0.c3, .slice K0.A4 K0.n4 K0.c4] ∧ Below w.heap.size w W) ⟨_, rfl, ?_, ?_⟩ ?_
 · exact kbn
 · go_grown
 rintro W ⟨b0, e0, B0, hB⟩
 rw [e0]
 have G0 : w.heap.size ≤ b0 := by omega
 clear e0
 have ⟨L0, C0, F0⟩ := B0
 have hkW : Kept [] w W := (Kept.refl _ _).call hB
 have HIW := Lib.hid (Inp.kept8 HI.out hkW)
 have HNEW : Hid (Calls Tryz.prog 75 #[.agg #[.slice K0.A1 K0.n1 K0.c1, .slice K0.A2 K0.n2 K0.c2, .int .i64 (mN : Nat), .int .i64 (f : Nat), .slice K0.A3 K0.n3 K0.c3, .slice K0.A4 K0.n4 K0.c4]] W (GetNew p W K0.A1 K0.A2 K0.A3 K0.A4 K0.n1 K0.c1 K0.n2 K0.c2 K0.n3 K0.c3 K0.n4 K0.c4)) :=
   new_any _ _ _ _ _ _ _ _ _ _ _ _ mN (f : Int) W HMN.out HF.out HIW.out.nd HIW.out.ed HIW.out.fl HIW.out.fc HIW.out.sd HO.out hn4
 go_upto_region 2 with (go_at_call 75; refine HNEW.out.mono ?_; rintro e w1 ⟨K, g, O, G, rfl, hI1, hM1, -, ek1, -⟩)
 have HM1 := Lib.hid hM1
 have HI1 := Lib.hid hI1
 have HEK := Lib.hid ek1
 refine wp_named (fun V => ∃ gs, w1.heap.size = gs ∧ Blk V gs [.pointer (some ⟨g, 0, none⟩)] ∧ Kept [] w1 V) ⟨_, rfl, Blk.new _ _ _ _ rfl, (Kept.refl _ _).alloc _⟩ ?_
 rintro V ⟨gs, egs, Bgs, hkV⟩
 rw [egs]
 have MV := Lib.hid (HM1.out.kept hkV)
 have hlowV := MV.out.low
 have hgsW : w1.heap.size ≤ gs := by omega
 have SGS : Hid (SafeB O V gs) := HM1.out.fresh hgsW Bgs.1
 have HBG := Lib.hid Bgs
 have ⟨Lg, Cg, Fg⟩ := Bgs
 have B0V : Blk V b0 [.slice K0.A1 K0.n1 K0.c1, .slice K0.A2 K0.n2 K0.c2, .int .i64 (mN : Nat), .int .i64 (f : Nat), .slice K0.A3 K0.n3 K0.c3, .slice K0.A4 K0.n4 K0.c4] := ⟨Nat.lt_of_lt_of_le L0 hlowV.size, fun i => (hlowV.cell (p := ⟨b0, i, none⟩) L0).trans (B0.2.1 i), fun i => (hlowV.frozen (p := ⟨b0, i, none⟩) L0).trans (B0.2.2 i)⟩
 have ⟨L0', C0', F0'⟩ := B0V
 have gv := HGV.out.later (hkW.toBelow.trans (hlowV.mono hkW.size))
 have gv0 := gv.c0
 have gv1 := gv.c1
 have gv2 := gv.c2
 have gvl := gv.lt
 have HN1 : K.n1 = p.ns.length := HI1.out.nd.1.symm
 have HN2 : K.n1 ≤ 8192 := by have h1 := (If.sup_parts HO.out.sup).1; omega
 have HINC : Hid (Calls Tryz.prog 76 #[.pointer (some ⟨g, 0, none⟩), .int .i64 mN, .int .i64 0, .int .i64 0, .agg #[.int .i64 2, .int .i64 0, .int .i64 0]] V (GetS p K W g O G V st0 (st0.inc mN 0 0 shift))) :=
   include_any V mN 0 0 shift 2 0 0 rfl MV.out (st0_wf p) HN1 HN2 HO.out.f2 HMU.out hmnN hF0 hF0
 clear gv hI1 hM1 ek1 egs C0 F0 B0V hlowV
 go_upto_region 3 with (go_at_call 76; refine HINC.out.mono ?_; rintro e w2 ⟨O2, G2, rfl, M2', F2'⟩)
 have M2 := Lib.hid M2'
 have F2 := Lib.hid F2'
 have SG2 : Hid (SafeB O2 w2 gs) := SGS.out.fx F2'.fx
 have HB2 := Lib.hid (SGS.out.blk F2'.fx HBG.out)
 have ⟨Lg2, Cg2, Fg2⟩ := HB2.out
 have HTA : Hid (Tab p 0 [] (st0.inc mN 0 0 shift)) := by
   have h1 := init_inv HO.out
   rw [HMN.out, Int.toNat_natCast] at h1
   exact ⟨h1, (inc_gw st0 mN 0 0 shift).V⟩
 have HDR : Hid (Calls Tryz.prog 77 #[.pointer (some ⟨g, 0, none⟩), .func (.func 78) #[] #[.pointer (some ⟨gs, 0, none⟩)]] w2 (fun e w' => ∃ s' O' G', e = .returned (.tuple #[]) ∧ Mem p K W g O' G' w' s' ∧ Fy K O2 O' G2 G' (st0.inc mN 0 0 shift) s' w2 w' ∧ Tab p 0 [] s' ∧ s'.q = [])) :=
   drain1_ok w2 HI1.out (HGV.out.later hkW.toBelow) HO.out HFI.out HMU.out M2.out HTA.out hsdn HB2.out SG2.out
 clear M2' F2' Cg Fg C0' F0' gv0 gv1 gv2
 go_upto_region 4 with (go_at_call 77; refine HDR.out.mono ?_; rintro e w3 ⟨s3, O3, G3, rfl, M3', F3', T3, Q3⟩)
 have M3 := Lib.hid M3'
 have HT3 := Lib.hid T3
 have HQ3 := Lib.hid Q3
 have ⟨Lg3, Cg3, Fg3⟩ := SG2.out.blk F3'.fx HB2.out
 clear M3' F3' T3 Q3 Cg2 Fg2
 go_wp2_with fail
 go_ret
 exact ⟨W, K, g, O3, G3, s3, rfl, hkW.toBelow, HI1.out, M3.out, HT3.out, HQ3.out, HEK.out⟩
end Go.Proofs.YtincpmdldpakkaaGreatDoor
namespace Go.Df
open Go.RowKit Go.Maps Go.ChangeMaps
def RgT (P : Program) (k : TypeId) (z : Value) (w : World) (b r n : Nat) (f : Value → Value) (left : Lit → Bool) (cnt : Nat) : Prop :=
 ∃ D : DataW Value, w.ranges P k tokElem b r n D left cnt ∧ Reads P k z D f
variable {P : Program} {k : TypeId} {z : Value} {w w' : World} {b r n : Nat} {f : Value → Value} {left : Lit → Bool} {cnt : Nat}
theorem RgT.left_eq (h : RgT P k z w b r n f left cnt) : w.rangeLeft b r = cnt := let ⟨_, h1, _⟩ := h; h1.left_eq
theorem RgT.lt (h : RgT P k z w b r n f left cnt) : r < w.heap.size := let ⟨_, h1, _⟩ := h; h1.lt
theorem RgT.grown {row : Option Nat} (h : RgT P k z w b r n f left cnt) (hg : w.grownBy w' row) (hb : some b ≠ row) (hr : some r ≠ row) : RgT P k z w' b r n f left cnt :=
 let ⟨D, h1, h2⟩ := h; ⟨D, h1.kept hg hb hr, h2⟩
theorem kept_of_grown {row : Option Nat} (h : w.grownBy w' row) : Kept row.toList w w' :=
 ⟨h.os, h.tape, h.output, h.size, fun i hi hn => h.block i hi (fun e => hn (by rw [← e]; simp))⟩
theorem RgT.kept {X : List Nat} (h : RgT P k z w b r n f left cnt) (hk : Kept X w w') (hb : b ∉ X) (hr : r ∉ X) : RgT P k z w' b r n f left cnt := by
 obtain ⟨D, ⟨es, clock, since, seen, c0, h1, F, hs, hD, h2, rest⟩, h3⟩ := h
 have hlb := (Array.getElem?_eq_some_iff.1 h1).1
 have hlr := (Array.getElem?_eq_some_iff.1 h2).1
 exact ⟨D, ⟨es, clock, since, seen, c0, (hk.block b hlb hb).trans h1, F, hs, hD, (hk.block r hlr hr).trans h2, rest⟩, h3⟩
section
variable {ops : Array Oper} {rest : List Oper} {o : Oper} {a : Act} {Q : Exit → Act → World → Prop}
theorem wpList_range_mapT (hg : o.guard = none) (m : Operand) (t : TypeId) (hop : o.op = Op.range t m) (e : TypeId) (K : Keyed P k) (ht : P.underlying t = some (.map k e))
  (hm : a.eval m = .map (some b)) (hown : MapT P k z w b n f)
  (hK : ∀ w' left cnt, RgT P k z w' b w.heap.size n f left cnt → (∀ key kl, keyOf P k key = some kl → left kl = false → f key = z) → Kept [] w w' → w'.heap.size = w.heap.size + 1 → wpList P ops Q rest (a.put o.dst (.pointer (some ⟨w.heap.size, 0, none⟩))) w') :
  wpList P ops Q (o :: rest) a w := by
 obtain ⟨D, h1, h2⟩ := hown
 refine wpList_range_own w hg m t hop k e K ht tokElem b n D hm h1 fun w' hr hgr hsz => ?_
 refine hK w' _ _ ⟨D, hr, h2⟩ (fun key kl hk hl => ?_) (kept_of_grown hgr) hsz
 have h3 := (h2 key kl hk).1
 rw [atKey_of_not_has hl] at h3
 injection h3 with h3
 exact h3.symm
end
def RgO (P : Program) (k : TypeId) (z : Value) (w : World) (m : Option Nat) (r n : Nat) (f : Value → Value) (left : Lit → Bool) (cnt : Nat) : Prop :=
 match m with
 | some b => RgT P k z w b r n f left cnt
 | none => w.heap[r]? = some (.mapIter none 0 #[] 0) ∧ cnt = 0 ∧ ∀ kl, left kl = false
def leftO (w : World) (m : Option Nat) (r : Nat) : Nat := match m with | some b => w.rangeLeft b r | none => 0
theorem RgO.left_eq {m : Option Nat} (h : RgO P k z w m r n f left cnt) : leftO w m r = cnt := by
 cases m with
 | some b => exact RgT.left_eq h
 | none => exact h.2.1.symm
theorem RgO.lt {m : Option Nat} (h : RgO P k z w m r n f left cnt) : r < w.heap.size := by
 cases m with
 | some b => exact RgT.lt h
 | none => exact (Array.getElem?_eq_some_iff.1 h.1).1
theorem RgO.kept {m : Option Nat} {X : List Nat} (h : RgO P k z w m r n f left cnt) (hk : Kept X w w') (hb : ∀ b, m = some b → b ∉ X) (hr : r ∉ X) : RgO P k z w' m r n f left cnt := by
 cases m with
 | some b => exact RgT.kept h hk (hb b rfl) hr
 | none => exact ⟨(hk.block r (RgO.lt (m := none) h) hr).trans h.1, h.2⟩
section
variable {ops : Array Oper} {rest : List Oper} {o : Oper} {a : Act} {Q : Exit → Act → World → Prop}
theorem wpList_range_mapO (hg : o.guard = none) (m : Operand) (t : TypeId) (hop : o.op = Op.range t m) (e : TypeId) (K : Keyed P k) (ht : P.underlying t = some (.map k e)) (mm : Option Nat)
  (hm : a.eval m = .map mm) (hown : ∀ b, mm = some b → MapT P k z w b n f) (hno : mm = none → ∀ key, f key = z)
  (hK : ∀ w' left cnt, RgO P k z w' mm w.heap.size n f left cnt → (∀ key kl, keyOf P k key = some kl → left kl = false → f key = z) → Kept [] w w' → w'.heap.size = w.heap.size + 1 → wpList P ops Q rest (a.put o.dst (.pointer (some ⟨w.heap.size, 0, none⟩))) w') :
  wpList P ops Q (o :: rest) a w := by
 cases mm with
 | some b => exact wpList_range_mapT hg m t hop e K ht hm (hown b rfl) (fun w' left cnt h => hK w' left cnt h)
 | none =>
  refine wpList_plain hg fun K' hK' => ?_
  unfold Oper.wp
  simp [execOp, hop, hm, run_range_nilMap w t k e ht, Result.andThen]
  exact hK' _ _ (hK _ (fun _ => false) 0 ⟨heap_alloc_new w _, rfl, fun _ => rfl⟩ (fun key _ _ _ => hno rfl key) ((Kept.refl _ _).alloc _) (by simp))
end
end Go.Df
namespace Go.Df
open Go.RowKit Go.Maps Go.ChangeMaps
theorem keyOf_two_inv {P : Program} {k e : TypeId} {x y : String} (h : fieldsOf P k = [(x, e, 0), (y, e, 1)]) (hc : P.cellsOf k = 2) (he : P.underlying e = some (.int .i64)) (hce : P.cellsOf e = 1) (hrow : k < P.types.size)
  {key : Value} {kl : Lit} (hk : keyOf P k key = some kl) : ∃ a b, key = .agg #[.int .i64 a, .int .i64 b] ∧ (Lit.int .i64 a).wf = true ∧ (Lit.int .i64 b).wf = true := by
 obtain ⟨fs, hu, hf⟩ := fieldsOf_struct h (by simp)
 obtain ⟨m, hm⟩ : ∃ m, P.types.size = m + 1 := Nat.exists_eq_succ_of_ne_zero (Nat.ne_of_gt (Nat.lt_of_le_of_lt (Nat.zero_le (k : Nat)) hrow))
 unfold keyOf at hk
 rw [hu] at hk
 dsimp only at hk
 split at hk
 ·rename_i hfo
  rw [Bool.and_eq_true] at hfo
  have hfo := hfo.2
  cases key with
  | agg cs =>
   obtain ⟨cl⟩ := cs
   unfold Value.formed at hfo
   rw [hu, hc] at hfo
   have hlen : cl.length = 2 := by simpa using hfo
   have hl : fs.toList.length = 2 := by simpa using congrArg List.length hf
   obtain ⟨fl⟩ := fs
   match fl, cl, hl, hf, hlen with
   | [f0, f1], [c0, c1], _, hf, _ =>
    simp only [List.map_cons, List.map_nil, List.cons.injEq, Prod.mk.injEq, and_true] at hf
    obtain ⟨⟨n0, t0, o0⟩, n1, t1, o1⟩ := hf
    rw [hm] at hk
    simp [Program.keyLits, hu, hc, n0, n1, t0, t1, o0, o1, hce, he, Value.cells] at hk
    obtain ⟨z, ⟨-, h1⟩, -⟩ := hk
    obtain ⟨z1, h2, h3⟩ := Option.bind_eq_some_iff.1 h1
    clear h1
    have g1 : ∃ a, c0 = .int .i64 a ∧ (Lit.int .i64 a).wf = true := by
     cases c0 <;> simp at h2
     obtain ⟨⟨rfl, h5⟩, -⟩ := h2
     exact ⟨_, rfl, h5⟩
    have g2 : ∃ a, c1 = .int .i64 a ∧ (Lit.int .i64 a).wf = true := by
     cases c1 with
     | int q b =>
      simp at h3
      by_cases hq : q = IntKind.i64 ∧ (Lit.int .i64 b).wf = true
      ·obtain ⟨rfl, hb⟩ := hq
       exact ⟨_, rfl, hb⟩
      ·rw [if_neg (by rintro ⟨rfl, h5⟩; exact hq ⟨rfl, h5⟩)] at h3
       simp at h3
     | _ => simp at h3
    obtain ⟨a, rfl, ha⟩ := g1
    obtain ⟨b, rfl, hb⟩ := g2
    exact ⟨a, b, rfl, ha, hb⟩
   | [f0, f1], [c0], _, _, h9 => exact absurd h9 (by simp)
   | [f0, f1], [], _, _, h9 => exact absurd h9 (by simp)
   | [f0, f1], c0 :: c1 :: c2 :: r, _, _, h9 => exact absurd h9 (by simp)
   | [], _, h9, _, _ => exact absurd h9 (by simp)
   | [f0], _, h9, _, _ => exact absurd h9 (by simp)
   | f0 :: f1 :: f2 :: r, _, h9, _, _ => exact absurd h9 (by simp)
  | _ => unfold Value.formed at hfo; rw [hu] at hfo; cases hfo
 ·cases hk
variable {P : Program} {k : TypeId} {z : Value} {w w' : World} {b r n : Nat} {f : Value → Value} {left : Lit → Bool} {cnt : Nat}
def Came (P : Program) (k : TypeId) (left : Lit → Bool) (key : Value) : Prop := ∃ kl, keyOf P k key = some kl ∧ left kl = false
theorem came_step (K : Keyed P k) {key0 : Value} {kl0 : Lit} (h0 : keyOf P k key0 = some kl0) {left : Lit → Bool} (key : Value) : Came P k (fun y => left y && !y.sameKey kl0) key ↔ (Came P k left key ∨ key = key0) := by
 constructor
 ·rintro ⟨kl, h1, h2⟩
  cases hl : left kl with
  | false => exact .inl ⟨kl, h1, hl⟩
  | true =>
   have hl9 : kl.sameKey kl0 = true := by simpa [hl] using h2
   have e := WideAt.sameKey_eq hl9
   subst e
   exact .inr (K.inj h1 h0)
 ·rintro (⟨kl, h1, h2⟩ | rfl)
  ·exact ⟨kl, h1, by simp [h2]⟩
  ·exact ⟨kl0, h0, by simp [WideAt.sameKey_self (K.key h0)]⟩
section
variable {ops : Array Oper} {rest : List Oper} {o : Oper} {a : Act} {Q : Exit → Act → World → Prop}
theorem wpList_next_mapP (hg : o.guard = none) (it : Operand) (hop : o.op = Op.next it false) (K : Keyed P k) (hinv : ∀ key kl, keyOf P k key = some kl → ∃ x y, key = .agg #[.int .i64 x, .int .i64 y] ∧ (Lit.int .i64 x).wf = true ∧ (Lit.int .i64 y).wf = true) (mm : Option Nat)
  (hit : a.eval it = .pointer (some ⟨r, 0, none⟩)) (h : RgO P k z w mm r n f left cnt)
  (hDone : cnt = 0 → (∀ kl, left kl = false) → wpList P ops Q rest (a.put o.dst (.tuple #[.bool false])) w)
  (hMore : ∀ (x y : Int) (left' : Lit → Bool) (w' : World) (cnt' : Nat), (Lit.int .i64 x).wf = true → (Lit.int .i64 y).wf = true → (∀ key, Came P k left' key ↔ (Came P k left key ∨ key = .agg #[.int .i64 x, .int .i64 y])) → RgO P k z w' mm r n f left' cnt' → cnt' < cnt → Kept [r] w w' → w'.heap.size = w.heap.size → f (.agg #[.int .i64 x, .int .i64 y]) ≠ z →
   (Instr.entry (.pointer (some ⟨r, 0, none⟩))).run P w' = .ok (.tuple #[.agg #[.int .i64 x, .int .i64 y], f (.agg #[.int .i64 x, .int .i64 y])]) w' → wpList P ops Q rest (a.put o.dst (.tuple #[.bool true, .agg #[.int .i64 x, .int .i64 y], f (.agg #[.int .i64 x, .int .i64 y])])) w') :
  wpList P ops Q (o :: rest) a w := by
 cases mm with
 | some b =>
  obtain ⟨D, h1, h2⟩ := h
  refine wpList_next_ranges w hg it hop k K tokElem (id : Value → Value) id (fun key kl hkey => ⟨key, rfl⟩) (fun v y _ => ⟨v, rfl⟩) b r n D left cnt hit h1 hDone ?_
  intro key c kl y w' cnt' hkey hlk hv hat hrg hlt hgr hsz hen
  obtain ⟨x0, y0, rfl, hx0, hy0⟩ := hinv _ _ hkey
  have h3 := (h2 _ _ hkey).1
  rw [hat] at h3
  have h4 : y = (.held c, []) := by
   have : tokElem (id c) = some y := hv
   unfold tokElem at this
   exact (Option.some.inj this).symm
  rw [h4] at h3
  injection h3 with h3
  have h3 : c = f (.agg #[.int .i64 x0, .int .i64 y0]) := h3
  subst h3
  exact hMore x0 y0 _ w' cnt' hx0 hy0 (came_step K hkey) ⟨D, hrg, h2⟩ hlt (kept_of_grown hgr) hsz ((h2 _ _ hkey).2 (fun zd => by rw [hat zd, h4]; rfl)) hen
 | none =>
  refine wpList_plain hg fun K' hK' => ?_
  have hrun : ∀ ty, (Instr.next (.pointer (some ⟨r, 0, none⟩)) false ty).run P w = .ok (.tuple #[.bool false]) w := fun ty => by
   simp only [Instr.next, getObj, Sem.run_bind, Sem.run, h.1, Result.andThen]
   rfl
  unfold Oper.wp
  simp [execOp, hop, hit, hrun, Result.andThen]
  exact hK' _ _ (hDone h.2.1 h.2.2)
end
end Go.Df
namespace Go.Proofs.YtincpmdldpakkaaGreatDoor
open Go.RowKit Go.Df Go.Df.Iv Go.Df.Sp
attribute [local go_sem ↓] Go.wp_at_zero Go.wp_at_succ
def GetJ (p : Vb) (K : Kn) (mN f : Nat) (w : World) (e : Ending) (w' : World) : Prop :=
 ∃ (go cN : Nat) (rw rc : Nat → Nat) (T : Nat → Nat → Nat → D), e = .returned (.agg #[.slice K.A1 K.n1 K.c1, .slice K.A2 K.n2 K.c2, .int .i64 (mN : Nat), .int .i64 (f : Nat), .slice K.A3 K.n3 K.c3, .slice K.A4 K.n4 K.c4, .slice (some ⟨go, 0, none⟩) K.n1 cN]) ∧ Tw p K.n1 f w' go rw rc T ∧ Clo p T ∧ Snd p T ∧ Below w.heap.size w w' ∧ (∀ n, n < K.n1 → w.heap.size ≤ rw n) ∧ w.heap.size ≤ go
end Go.Proofs.YtincpmdldpakkaaGreatDoor
namespace Go.Df
namespace If
open Sp
end If
namespace Iv
open Sp
def stL (ns : List Nd) (i : Nat) : List Nat := (List.range i).map (If.stOf ns)
noncomputable def vfold (p : Vb) (T : Nat → Nat → Nat → D) (V : Nat → Nat → U) (n d a : Nat) : U := (List.range a).foldl (fun v a => meetV v (app (T n a d) (V (If.stOf p.ns n) a))) topV
end Iv
end Go.Df
namespace Go.Proofs.YtincpmdldpakkaaGreatDoor
open Go.RowKit Go.Df Go.Df.Iv Go.Df.Sp
attribute [local go_sem ↓] Go.wp_at_zero Go.wp_at_succ
end Go.Proofs.YtincpmdldpakkaaGreatDoor
namespace Go.Df.Iv
open Go Go.RowKit Go.Df.Sp
theorem Tw.fx {p : Vb} {N f : Nat} {w w' : World} {go : Nat} {rw rc : Nat → Nat} {T : Nat → Nat → Nat → D} {O O' : Nat → Prop} (h : Tw p N f w go rw rc T) (k : Fx O O' w w') (hg : SafeB O w go) (hr : ∀ n, n < N → SafeB O w (rw n)) : Tw p N f w' go rw rc T :=
 ⟨(hg.fx k).1, fun n hn => (hg.cell k n).trans (h.row n hn), fun n a d hn ha hd => ⟨((hr n hn).cell k _).trans (h.cell n a d hn ha hd).1, ((hr n hn).cell k _).trans (h.cell n a d hn ha hd).2.1, ((hr n hn).cell k _).trans (h.cell n a d hn ha hd).2.2⟩,
  fun n i hn => (World.frozen?_of_block (w := w) ((hr n hn).heap k)).trans (h.fr n i hn), fun n hn => ((hr n hn).fx k).1, h.inj, h.ne, h.top⟩
structure Ln (p : Vb) (N f : Nat) (w : World) (O : Nat → Prop) (go : Nat) (rw rc : Nat → Nat) (T : Nat → Nat → Nat → D) (As : Option Addr) (cs : Nat) : Prop where
 tw : Tw p N f w go rw rc T
 sg : SafeB O w go
 sr : ∀ n, n < N → SafeB O w (rw n)
 st : SInO O w As N cs (ofNats (stL p.ns N))
theorem Ln.fx {p : Vb} {N f : Nat} {w w' : World} {go : Nat} {rw rc : Nat → Nat} {T : Nat → Nat → Nat → D} {O : Nat → Prop} {As : Option Addr} {cs : Nat} (h : Ln p N f w O go rw rc T As cs) (k : Fx O O w w') : Ln p N f w' O go rw rc T As cs :=
 ⟨h.tw.fx k h.sg h.sr, h.sg.fx k, fun n hn => (h.sr n hn).fx k, h.st.fx k⟩
end Go.Df.Iv
namespace Go.Proofs.YtincpmdldpakkaaGreatDoor
open Go.RowKit Go.Df Go.Df.Iv Go.Df.Sp
attribute [local go_sem ↓] Go.wp_at_zero Go.wp_at_succ
def GetL (p : Vb) (N f go2 : Nat) (rw2 rc2 : Nat → Nat) (w : World) (T : Nat → Nat → Nat → D) (V : Nat → Nat → U) (Q : Prop) (e : Ending) (w' : World) : Prop :=
 ∃ b V', e = .returned (.bool b) ∧ Vw N f w' go2 rw2 rc2 V' ∧ Fx (RowO N rw2) (RowO N rw2) w w' ∧ Rv p T V V' b ∧ (b = false → Q)
end Go.Proofs.YtincpmdldpakkaaGreatDoor
namespace Go.Df
open Go.RowKit
namespace Iv
open Sp
def ucel (g : Nat → U) (j : Nat) : List Value := (List.range j).flatMap fun d => [.int .i64 (g d).1.k, .int .i64 (g d).1.n]
def EmU (base : Nat) (tb : TypeId) (f : Nat) (S : Nat → Nat → U) (bs : Nat → Nat) (n : Nat) (w : World) : Prop :=
 (∀ x, x < n → base ≤ bs x ∧ Tag w (bs x) tb ∧ ∀ d, d < f → w.cell? ⟨bs x, d * 2, none⟩ = some (.int .i64 (S x d).1.k) ∧ w.cell? ⟨bs x, d * 2 + 1, none⟩ = some (.int .i64 (S x d).1.n)) ∧ ∀ x y, x < n → y < n → bs x = bs y → x = y
theorem EmU.kept {base : Nat} {tb : TypeId} {f n : Nat} {S : Nat → Nat → U} {bs : Nat → Nat} {X : List Nat} {w w' : World} (h : EmU base tb f S bs n w) (hk : Kept X w w') (hX : ∀ x, x < n → bs x ∉ X) : EmU base tb f S bs n w' :=
 ⟨fun x hx => by
  obtain ⟨h1, h2, h3⟩ := h.1 x hx
  exact ⟨h1, h2.same (hk.block _ h2.lt (hX x hx)), fun d hd => ⟨(hk.cell _ _ h2.lt (hX x hx)).trans (h3 d hd).1, (hk.cell _ _ h2.lt (hX x hx)).trans (h3 d hd).2⟩⟩, h.2⟩
theorem EmU.snoc {base : Nat} {tb : TypeId} {f n g : Nat} {S : Nat → Nat → U} {bs : Nat → Nat} {w : World} (h : EmU base tb f S bs n w) (hg : base ≤ g) (ht : Tag w g tb) (hc : ∀ d, d < f → w.cell? ⟨g, d * 2, none⟩ = some (.int .i64 (S n d).1.k) ∧ w.cell? ⟨g, d * 2 + 1, none⟩ = some (.int .i64 (S n d).1.n)) (hn : ∀ x, x < n → bs x ≠ g) : EmU base tb f S (updN bs n g) (n + 1) w := by
 refine ⟨fun x hx => ?_, fun x y hx hy e => ?_⟩
 ·unfold updN
  by_cases e : x = n
  ·rw [if_pos e, e]; exact ⟨hg, ht, hc⟩
  ·rw [if_neg e]; exact h.1 x (by omega)
 ·unfold updN at e
  by_cases e1 : x = n
  ·by_cases e2 : y = n
   ·omega
   ·rw [if_pos e1, if_neg e2] at e; exact absurd e.symm (hn y (by omega))
  ·by_cases e2 : y = n
   ·rw [if_neg e1, if_pos e2] at e; exact absurd e (hn x (by omega))
   ·rw [if_neg e1, if_neg e2] at e; exact h.2 x y (by omega) (by omega) e
end Iv
end Go.Df
namespace Go.Proofs.YtincpmdldpakkaaGreatDoor
open Go.RowKit Go.Df Go.Df.Iv Go.Df.Sp
attribute [local go_sem ↓] Go.wp_at_zero Go.wp_at_succ
theorem val_info9 : (Tryz.prog.info? 46).map (fun i => (i.zero, i.size, i.bytes)) = some (some (.agg #[.int .i64 0, .int .i64 0]), 2, 16) := by kernel_rfl
theorem rowv_info : (Tryz.prog.info? 39).map (fun i => (i.zero, i.size, i.bytes)) = some (some (.slice none 0 0), 1, 24) := by kernel_rfl
theorem Inp.kept9 {p : Vb} {K : Kn} {w w' : World} (h : Inp p K w) (hk : Kept [] w w') : Inp p K w' := by
 have hb := hk.toBelow
 refine ⟨h.nd.later hb, h.ed.later hb, h.fl.later hb, h.sd.later hb, fun b o i A n c e hi hc => ?_⟩
 obtain ⟨b', o', e', hl, hc'⟩ := h.fl.2 (by omega)
 rw [e] at e'
 injection e' with e'
 injection e' with e1 e2
 subst e1 e2
 exact h.fc b o i A n c e hi ((hb.cell (p := ⟨b, _, none⟩) hl).symm.trans hc)
def GetU (p : Vb) (N f : Nat) (w : World) (e : Ending) (w' : World) : Prop :=
 ∃ (go cc : Nat) (rw rc : Nat → Nat) (S : Nat → Nat → U), e = .returned (.tuple #[.agg #[.slice (some ⟨go, 0, none⟩) N cc], .int .i64 0]) ∧ Vw N f w' go rw rc S ∧ IsSol p S ∧ Below w.heap.size w w'
end Go.Proofs.YtincpmdldpakkaaGreatDoor
namespace Go.Df
abbrev SXp' (W : World) (ga gb : Nat) (w' : World) : Prop := Kept [] W w' ∧ (∀ o, w'.cell? ⟨ga, o, none⟩ = W.cell? ⟨ga, o, none⟩) ∧ ∀ o, w'.cell? ⟨gb, o, none⟩ = W.cell? ⟨gb, o, none⟩
theorem SXp'.of {W w' : World} {ga gb : Nat} (h : Kept [] W w') (ha : ga < W.heap.size) (hb : gb < W.heap.size) : SXp' W ga gb w' := ⟨h, fun o => h.cell ga o ha (by simp), fun o => h.cell gb o hb (by simp)⟩
end Go.Df
namespace Go.Proofs.YtincpmdldpakkaaGreatDoor
open Go.RowKit Go.Df Go.Df.Iv Go.Df.Sp
attribute [local go_sem ↓] Go.wp_at_zero Go.wp_at_succ
theorem meetU_any (x y : U) (x0 x1 y0 y1 z0 z1 : Int) (hx : x.1 = ⟨x0, x1⟩) (hy : y.1 = ⟨y0, y1⟩) (hz : (Iv.meetV x y).1 = ⟨z0, z1⟩) (w : World) :
  Calls Tryz.prog 36 #[.agg #[.int .i64 x0, .int .i64 x1], .agg #[.int .i64 y0, .int .i64 y1]] w fun e w' => e = .returned (.agg #[.int .i64 z0, .int .i64 z1]) ∧ Below w.heap.size w w' := by
 have h := meetV_any x0 x1 y0 y1 w
 have hm : (Iv.meetV x y).1 = Xf.meetV x.1 y.1 := rfl
 rw [hx, hy, hz] at hm
 rw [← hm] at h
 exact h
theorem appU_any (x : D) (v : U) (x0 x1 x2 y0 y1 z0 z1 : Int) (hx : x.1 = ⟨x0, x1, x2⟩) (hy : v.1 = ⟨y0, y1⟩) (hz : (app x v).1 = ⟨z0, z1⟩) (w : World) :
  Calls Tryz.prog 34 #[.agg #[.int .i64 x0, .int .i64 x1, .int .i64 x2], .agg #[.int .i64 y0, .int .i64 y1]] w fun e w' => e = .returned (.agg #[.int .i64 z0, .int .i64 z1]) ∧ Below w.heap.size w w' := by
 have h := apply_any x0 x1 x2 y0 y1 w
 have hm : (app x v).1 = Xf.apply x.1 v.1 := rfl
 rw [hx, hy, hz] at hm
 rw [← hm] at h
 exact h
theorem Mem.getv {p : Vb} {K : Kn} {w0 : World} {b : Nat} {O : Nat → Prop} {G : Gh} {w : World} {s : St} (h : Mem p K w0 b O G w s) {n a : Nat} (hn : n < K.n1) (ha : a ≤ 1000000) {y0 y1 : Int} (hy : (s.V n a).1 = ⟨y0, y1⟩) :
  Calls Tryz.prog 35 #[.agg #[.slice (some ⟨K.tr 3, 0, none⟩) K.n1 K.n1], .int .i64 n, .int .i64 (a : Nat)] w fun e w' => e = .returned (.agg #[.int .i64 y0, .int .i64 y1]) ∧ Below w.heap.size w w' :=
 getv_any (K.tr 3) K.n1 K.n1 n a (G.m 3) (G.c 3) G.vv w h.tv hn ha y0 y1 (by
  have h1 := h.hv n a hn
  unfold uv at h1
  rw [hy] at h1
  exact h1)
set_option maxRecDepth 100000 in
set_option maxHeartbeats 40000000 in
theorem lower_any {p : Vb} {K : Kn} {w0 : World} {b : Nat} {O : Nat → Prop} {G : Gh} {s : St} (w : World) (n a : Nat) (v : U) (y0 y1 : Int) (hy : v.1 = ⟨y0, y1⟩) (hm : Mem p K w0 b O G w s) (hw : Wf p s) (hN1 : K.n1 = p.ns.length) (hN2 : K.n1 ≤ 8192) (hF : p.F ≤ 1024) (hmu : mu0 p ≤ 1000000) (hn : n < p.ns.length) (ha : a < p.F.toNat) :
   Calls Tryz.prog 80 #[.pointer (some ⟨b, 0, none⟩), .int .i64 n, .int .i64 a, .agg #[.int .i64 y0, .int .i64 y1]] w (GetS p K w0 b O G w s (s.low n a v)) := by
 obtain ⟨s', hs'⟩ : ∃ s', s' = s.low n a v := ⟨_, rfl⟩
 rw [← hs']
 have HS := Lib.hid hs'
 have hnK : n < K.n1 := by omega
 have hnK' : (n : Int) < (K.n1 : Int) := by omega
 have HM := Lib.hid hm
 have HKB : Hid (∀ i, s.k i ≤ 1000000) := fun i => by have := hw.kb i; omega
 have HPQ0 : Hid ((∀ x, x ∈ s.q ↔ s.pd x ≠ []) ∧ s.q.Nodup ∧ ∀ x ∈ s.q, x < K.n1) := ⟨hw.qp, hw.qn, fun x hx => by
   obtain ⟨z, hz⟩ := List.exists_mem_of_ne_nil _ ((hw.qp x).1 hx)
   rw [hN1]
   exact (hw.pr x z hz).1⟩
 obtain ⟨x0, hx0⟩ : ∃ u, (s.V n a).1.k = u := ⟨_, rfl⟩
 obtain ⟨x1, hx1⟩ : ∃ u, (s.V n a).1.n = u := ⟨_, rfl⟩
 obtain ⟨z0, hz0'⟩ : ∃ u, (Iv.meetV (s.V n a) v).1.k = u := ⟨_, rfl⟩
 obtain ⟨z1, hz1'⟩ : ∃ u, (Iv.meetV (s.V n a) v).1.n = u := ⟨_, rfl⟩
 have eX : (s.V n a).1 = ⟨x0, x1⟩ := by rw [← hx0, ← hx1]
 have eZ : (Iv.meetV (s.V n a) v).1 = ⟨z0, z1⟩ := by rw [← hz0', ← hz1']
 have HZ : Hid (uv (Iv.meetV (s.V n a) v) = .agg #[.int .i64 z0, .int .i64 z1]) := by show _ = _; unfold uv; rw [eZ]
 have HME : Hid (∀ w9, Calls Tryz.prog 36 #[.agg #[.int .i64 x0, .int .i64 x1], .agg #[.int .i64 y0, .int .i64 y1]] w9 fun e w' => e = .returned (.agg #[.int .i64 z0, .int .i64 z1]) ∧ Below w9.heap.size w9 w') := fun w9 => meetU_any _ _ _ _ _ _ _ _ eX hy eZ w9
 have HDEC : Hid (Iv.meetV (s.V n a) v = s.V n a ↔ (z0 = x0 ∧ z1 = x1)) := by
   show _ ↔ _
   constructor
   · intro h
     rw [h, eX] at eZ
     injection eZ with e1 e2
     exact ⟨e1.symm, e2.symm⟩
   · rintro ⟨rfl, rfl⟩
     exact Subtype.ext (eZ.trans eX.symm)
 have HGX : Hid (∀ w9, Kept [] w w9 → Calls Tryz.prog 35 #[.agg #[.slice (some ⟨K.tr 3, 0, none⟩) K.n1 K.n1], .int .i64 n, .int .i64 (a : Nat)] w9 fun e w' => e = .returned (.agg #[.int .i64 x0, .int .i64 x1]) ∧ Below w9.heap.size w9 w') := fun w9 hk9 => (hm.kept hk9).getv hnK (by omega) eX
 have HN1 := Lib.hid hN1
 clear hx0 hx1 hz0' hz1' eX eZ hy hm hw hs' hmu hN1
 go_enter Tryz.func80, Tryz.ntmps80
 go_upto_region 1 with fail
 refine wp_named (fun W => ∃ b0, w.heap.size = b0 ∧ Blk W b0 [.int .i64 y0, .int .i64 y1] ∧ Below w.heap.size w W) ⟨_, rfl, ?_, ?_⟩ ?_
 · exact kbn
 · go_grown
 rintro W ⟨b0, e0, B0, hB⟩
 rw [e0]
 have G0 : w.heap.size ≤ b0 := by omega
 clear e0
 have ⟨L0, C0, F0⟩ := B0
 have hkW : Kept [] w W := (Kept.refl _ _).call hB
 have Bw := (HM.out.kept hkW).box
 unfold sbox at Bw
 have ⟨LW, CW, FW⟩ := Bw
 go_upto_region 2 with (go_at_call 35; refine (HGX.out _ hkW).mono ?_; rintro e w2 ⟨rfl, hb2⟩)
 refine wp_named (fun V => ∃ g, w2.heap.size = g ∧ Blk V g [.int .i64 x0, .int .i64 x1] ∧ Kept [] w2 V) ⟨_, rfl, Blk.new _ _ _ _ rfl, (Kept.refl _ _).alloc _⟩ ?_
 rintro V2 ⟨b2, e2, B2, hkV2⟩
 rw [e2]
 have ⟨L2, C2, F2⟩ := B2
 have hk12 : Kept [] W V2 := keptTrans ((Kept.refl _ _).call hb2) hkV2
 have ⟨L0', C0', F0'⟩ := hk12.blk (by simp) B0
 clear CW FW C0 F0 e2
 go_upto_region 3 with (go_at_call 36; refine (HME.out _).mono ?_; rintro e w3 ⟨rfl, hb3⟩)
 refine wp_named (fun V => ∃ g, w3.heap.size = g ∧ Blk V g [.int .i64 z0, .int .i64 z1] ∧ Kept [] w3 V) ⟨_, rfl, Blk.new _ _ _ _ rfl, (Kept.refl _ _).alloc _⟩ ?_
 rintro V3 ⟨b3, e3, B3, hkV3⟩
 rw [e3]
 have ⟨L3, C3, F3⟩ := B3
 have hk23 : Kept [] V2 V3 := keptTrans ((Kept.refl _ _).call hb3) hkV3
 have ⟨L2', C2', F2'⟩ := hk23.blk (by simp) B2
 have hk3 : Kept [] w V3 := keptTrans (keptTrans hkW hk12) hk23
 have M3 := Lib.hid (HM.out.kept hk3)
 have FY0 : Hid (Fy K O O G G s s w V3) := Fy.kept K O G s hk3
 have Bz := M3.out.box
 unfold sbox at Bz
 have ⟨LZ, CZ, FZ⟩ := Bz
 clear C0' F0' C2 F2 e3
 by_cases hsame : Iv.meetV (s.V n a) v = s.V n a
 · obtain ⟨rfl, rfl⟩ := HDEC.out.1 hsame
   have HE : Hid (s' = s) := by show _ = _; rw [HS.out, low_id hsame]
   clear hsame HDEC
   go_wp2_with fail
   go_end0
   exact ⟨O, G, rfl, M3.out.eq HE.out.symm, by rw [HE.out]; exact FY0.out⟩
 · have hne : ¬ (z0 = x0 ∧ z1 = x1) := fun h => hsame (HDEC.out.2 h)
   have HNE := Lib.hid hsame
   clear hsame
   go_cut [22] (fun s9 wx => s9 = .bool true ∧ V3 = wx)
   case first =>
     go_wp2_with fail
     all_goals
       go_meet
       exact ⟨rfl, rfl⟩
   case rest =>
   obtain ⟨rfl, rfl⟩ := hcut
   clear hne
   have hct : G.c 3 n < maxLen := by
     have h1 := M3.out.cb 3 n (by omega) hnK
     have h2 := HKB.out 3
     unfold maxLen
     omega
   have HPUT : Hid (Calls Tryz.prog 141 #[.agg #[.slice (some ⟨K.tr 3, 0, none⟩) K.n1 K.n1], .int .i64 n, .int .i64 (a : Nat), .agg #[.int .i64 z0, .int .i64 z1]] V3.drew (PutT Tryz.prog 3 179 (.agg #[.int .i64 0, .int .i64 0]) V3.drew (K.tr 3) K.n1 (G.m 3) (G.c 3) G.vv n (.int .i64 (a : Nat)) (.agg #[.int .i64 z0, .int .i64 z1]))) := putv_any (K.tr 3) K.n1 K.n1 n a (G.m 3) (G.c 3) G.vv z0 z1 _ (M3.out.kept ((Kept.refl _ _).drew)).tv hnK (by omega) hct (newU HNE.out HZ.out)
   have HPJ : Hid (∀ e w8, PutT Tryz.prog 3 179 (.agg #[.int .i64 0, .int .i64 0]) V3.drew (K.tr 3) K.n1 (G.m 3) (G.c 3) G.vv n (.int .i64 (a : Nat)) (.agg #[.int .i64 z0, .int .i64 z1]) e w8 → ∃ O' G', e = .returned (.tuple #[]) ∧ Mem p K w0 b O' G' w8 (s.setV n a (Iv.meetV (s.V n a) v)) ∧ Fy K O O' G G' s (s.setV n a (Iv.meetV (s.V n a) v)) V3.drew w8) := fun e w8 hput => (M3.out.kept ((Kept.refl _ _).drew)).put_val (y := Iv.meetV (s.V n a) v) hnK (by rw [HZ.out]; exact hput)
   go_upto_region 4 with fail
   refine wp_region_E 7 (fun w' => SXp' V3 b b3 w') (by kernel_rfl) (by (first | (with_reducible assumption) | exact SXp'.of (Kept.refl _ _).drew LZ L3)) (fun hHeld => ?_)
   refine WE_tk 0 ?_
   refine WE_tk 1 ?_
   refine WE_tk 2 ?_
   refine WE_tk 3 ?_
   refine WE_tk 4 ?_
   refine WE_tk 5 ?_
   refine WE_tk 6 ?_
   refine WE_last rfl (by kernel_rfl) (fun K hK => ?_)
   go_simp
   (go_at_call 141; refine HPUT.out.mono ?_; intro e w8 hput; obtain ⟨O8, G8, rfl, M8', F8⟩ := HPJ.out e w8 hput)
   (try go_wp2_with fail)
   refine hK.out _ _ ?_
   clear hK K
   have M8 := Lib.hid M8'
   have F08 := (FY0.out.trans (Fy.kept K O G s (Kept.refl _ V3).drew)).trans F8
   obtain ⟨s3, hs3⟩ : ∃ s3, s3 = s.setV n a (Iv.meetV (s.V n a) v) := ⟨_, rfl⟩
   rw [← hs3] at M8 F08
   have HPQ : Hid ((∀ x, x ∈ s3.q ↔ s3.pd x ≠ []) ∧ s3.q.Nodup ∧ s3.k 4 ≤ 1000000 ∧ ∀ x ∈ s3.q, x < K.n1) := by
     show _ ∧ _
     rw [hs3]
     exact ⟨HPQ0.out.1, HPQ0.out.2.1, HKB.out 4, HPQ0.out.2.2⟩
   have HEQ : Hid (s' = (s3.setQ (if s3.pd n = [] then s3.q ++ [n] else s3.q)).setP n (s3.pd n ++ [(a, a)])) := by
     show _ = _
     rw [HS.out, hs3]
     exact low_eq HNE.out
   clear hput M8' CZ FZ hs3
   go_wp2_with (go_at_call 136; refine (push_any _ n a a M8.out hnK hN2 HPQ.out.2.1 HPQ.out.1 HPQ.out.2.2.2 HPQ.out.2.2.1).mono ?_; rintro e w9 ⟨O9, G9, rfl, M9, F9⟩)
   go_end0
   have F9' := F08.trans F9
   rw [← HEQ.out] at F9'
   exact ⟨O9, G9, rfl, M9.eq HEQ.out.symm, F9'⟩
end Go.Proofs.YtincpmdldpakkaaGreatDoor
