/- Texts: Vy Sl. -/
import Derived.Test.YtooejoajojanjaaGreatDoorXSg26
import Derived.Test.YtooejoajojanjaaGreatDoorXSg12
import Derived.Laws.IdiomRangeMap
import Derived.Test.YtooejoajojanjaaGreatDoorXSg16
namespace Go.Df
open Go.RowKit
namespace If
open Sp
open Classical in
/-- The facts of the solution at a node, ascending. -/
noncomputable def solFX (p : Px) (i : Nat) : List Int := ofNats ((List.range p.F.toNat).filter fun d => d != 0 && decide (∃ a, PEx p a i d))
open Classical in
noncomputable def solRX (p : Px) (i : Nat) : Bool := decide (PEx p 0 i 0)
open Classical in
theorem solRX_eq {p : Px} {i : Nat} {b : Bool} (h : b = true ↔ PEx p 0 i 0) : b = solRX p i := by
 unfold solRX
 rw [Bool.eq_iff_iff, decide_eq_true_iff]
 exact h
open Classical in
theorem solFX_eq {p : Px} (ho : OkX p) {i : Nat} {l : List Nat} (h : ∀ y, hasB l y = true ↔ (∃ a, PEx p a i y) ∧ y ≠ 0) : ofNats (elemsB l (l.length * 64)) = solFX p i := by
 unfold solFX
 rw [elemsB_eq (F := p.F.toNat) (f := fun d => d != 0 && decide (∃ a, PEx p a i d)) (fun x => by rw [Bool.eq_iff_iff, h x]; simp [and_comm]) (fun x hx => by
   simp at hx
   obtain ⟨_, a, ha⟩ := hx
   have := ha.rng ho
   omega)]
def SolAX (p : Px) (w : World) (g n i : Nat) : Prop := g < w.heap.size ∧ (∀ x, x < n → w.cell? ⟨g, x, none⟩ = some (.bool (decide (x < i) && solRX p x))) ∧ ∀ x, w.frozen? ⟨g, x, none⟩ = false
theorem SolAX.kept {p : Px} {X : List Nat} {w w' : World} {g n i : Nat} (h : SolAX p w g n i) (hk : Kept X w w') (hX : g ∉ X) : SolAX p w' g n i :=
 ⟨Nat.lt_of_lt_of_le h.1 hk.size, fun x hx => (hk.cell g x h.1 hX).trans (h.2.1 x hx), fun x => (hk.frozen g x h.1 hX).trans (h.2.2 x)⟩
theorem SolAX.set {p : Px} {w : World} {g n i : Nat} (h : SolAX p w g n i) (hi : i < n) : SolAX p (w.setCell ⟨g, i, none⟩ (.bool (solRX p i))) g n (i + 1) := by
 refine ⟨by simpa [World.setCell] using h.1, fun x hx => ?_, fun x => by simpa using h.2.2 x⟩
 by_cases e : x = i
 · subst e
   rw [set_same (h.2.1 x hx)]
   simp
 · rw [set_other (by right; simpa using fun e' => e e'.symm), h.2.1 x hx]
   have : decide (x < i + 1) = decide (x < i) := by by_cases h1 : x < i <;> simp [h1] <;> omega
   rw [this]
def SolBX (p : Px) (base : Nat) (w : World) (g n i : Nat) : Prop := g < base ∧ g < w.heap.size ∧ (∀ x, x < n → ∃ A m c, w.cell? ⟨g, x, none⟩ = some (.slice A m c) ∧ Ints w A m (if x < i then solFX p x else []) ∧ m ≤ 9223372036854775807 ∧ ∀ a, A = some a → base ≤ a.block) ∧ ∀ x, w.frozen? ⟨g, x, none⟩ = false
theorem ints_apartX {X : List Nat} {w w' : World} {A : Option Addr} {m base : Nat} {l : List Int} (h : Ints w A m l) (hA : ∀ a, A = some a → base ≤ a.block) (hk : Kept X w w') (hX : ∀ x ∈ X, x < base) : Ints w' A m l :=
 ⟨h.1, fun hn => by
   obtain ⟨b, o, e, hl, hc⟩ := h.2 hn
   exact ⟨b, o, e, Nat.lt_of_lt_of_le hl hk.size, fun i hi => (hk.cell b (o + i) hl (fun hm => by have h1 := hX b hm; have h2 : base ≤ b := hA _ e; omega)).trans (hc i hi)⟩⟩
theorem SolBX.kept {p : Px} {base : Nat} {X : List Nat} {w w' : World} {g n i : Nat} (h : SolBX p base w g n i) (hk : Kept X w w') (hX : g ∉ X) (hX2 : ∀ x ∈ X, x < base) : SolBX p base w' g n i :=
 ⟨h.1, Nat.lt_of_lt_of_le h.2.1 hk.size, fun x hx => by
   obtain ⟨A, m, c, h1, h2, h3, h4⟩ := h.2.2.1 x hx
   exact ⟨A, m, c, (hk.cell g x h.2.1 hX).trans h1, ints_apartX h2 h4 hk hX2, h3, h4⟩, fun x => (hk.frozen g x h.2.1 hX).trans (h.2.2.2 x)⟩
theorem SolBX.set {p : Px} {base : Nat} {w : World} {g n i : Nat} {A : Option Addr} {m c : Nat} (h : SolBX p base w g n i) (hi : i < n) (hA : Ints w A m (solFX p i)) (hm : m ≤ 9223372036854775807) (hb : ∀ a, A = some a → base ≤ a.block) :
   SolBX p base (w.setCell ⟨g, i, none⟩ (.slice A m c)) g n (i + 1) := by
 have hk : Kept [g] w (w.setCell ⟨g, i, none⟩ (.slice A m c)) := (Kept.refl [g] w).set g i _ (.inl (by simp))
 refine ⟨h.1, by simpa [World.setCell] using h.2.1, fun x hx => ?_, fun x => by simpa using h.2.2.2 x⟩
 obtain ⟨A', m', c', h1, h2, h3, h4⟩ := h.2.2.1 x hx
 by_cases e : x = i
 · subst e
   refine ⟨A, m, c, set_same h1, ?_, hm, hb⟩
   rw [if_pos (by omega)]
   exact ints_apartX hA hb hk (by simpa using h.1)
 · refine ⟨A', m', c', ?_, ?_, h3, h4⟩
   · rw [set_other (by right; simpa using fun e' => e e'.symm)]; exact h1
   · have : (x < i + 1) = (x < i) := by simp; omega
     simp only [this]
     exact ints_apartX h2 h4 hk (by simpa using h.1)
def UnL (h : Nat → Nat → Bool) (l : List Nat) (left : Lit → Bool) : Prop := ∀ y, hasB l y = true ↔ ∃ a : Nat, left (.int .i64 (a : Int)) = false ∧ h a y = true
theorem UnL.init {h : Nat → Nat → Bool} {left : Lit → Bool} (hz : ∀ a y, left (.int .i64 ((a : Nat) : Int)) = false → h a y = false) : UnL h [] left := fun y => by
 rw [hasB_nil]
 refine ⟨fun h' => absurd h' (by simp), fun ⟨a, h1, h2⟩ => ?_⟩
 rw [hz a y h1] at h2
 exact h2
theorem left_minus (left : Lit → Bool) (x a : Int) : (left (.int .i64 a) && !(Lit.int .i64 a).sameKey (.int .i64 x)) = false ↔ (left (.int .i64 a) = false ∨ a = x) := by
 have : (Lit.int .i64 a).sameKey (.int .i64 x) = decide (a = x) := by
   simp [Lit.sameKey]
 rw [this]
 by_cases e : a = x <;> simp [e]
theorem UnL.step {h : Nat → Nat → Bool} {l l' : List Nat} {left : Lit → Bool} {x : Nat} (hu : UnL h l left) (hl : ∀ y, hasB l' y = (hasB l y || h x y)) : UnL h l' (fun z => left z && !z.sameKey (.int .i64 (x : Int))) := fun y => by
 rw [hl y, Bool.or_eq_true, hu y]
 constructor
 · rintro (⟨a, h1, h2⟩ | h1)
   · exact ⟨a, (left_minus _ _ _).2 (.inl h1), h2⟩
   · exact ⟨x, (left_minus _ _ _).2 (.inr rfl), h1⟩
 · rintro ⟨a, h1, h2⟩
   rcases (left_minus _ _ _).1 h1 with h3 | h3
   · exact .inl ⟨a, h3, h2⟩
   · obtain rfl : a = x := by omega
     exact .inr h2
theorem UnL.neg {h : Nat → Nat → Bool} {l l' : List Nat} {left : Lit → Bool} {x : Int} (hu : UnL h l left) (hx : x < 0) (hl : ∀ y, hasB l' y = hasB l y) : UnL h l' (fun z => left z && !z.sameKey (.int .i64 x)) := fun y => by
 rw [hl y, hu y]
 constructor
 · rintro ⟨a, h1, h2⟩
   exact ⟨a, (left_minus _ _ _).2 (.inl h1), h2⟩
 · rintro ⟨a, h1, h2⟩
   rcases (left_minus _ _ _).1 h1 with h3 | h3
   · exact ⟨a, h3, h2⟩
   · omega
end If
end Go.Df
namespace Go.Proofs.YtooejoajojanjaaGreatDoor
open Go.RowKit Go.Df Go.Df.If
attribute [local go_sem ↓] Go.wp_at_zero Go.wp_at_succ
theorem boolX_info : (Tryz.prog.info? 4).map (fun i => (i.zero, i.size, i.bytes)) = some (some (.bool false), 1, 1) := by kernel_rfl
def GetSolX (p : Px) (w : World) (e : Ending) (w' : World) : Prop :=
 ∃ A1 A2 n, e = .returned (.agg #[.slice A1 n n, .slice A2 n n]) ∧ n = p.ns.length ∧ (∀ Y XX, Kept XX w' Y → (∀ x ∈ XX, x < w.heap.size) → Bls Y A1 n ((List.range n).map (solRX p)) ∧ IntsR Y A2 n ((List.range n).map (solFX p))) ∧ Below w.heap.size w w'
set_option maxRecDepth 100000 in
set_option maxHeartbeats 8000000 in
theorem solution_any {p : Px} {K : Kn} {w0 : World} {b : Nat} {O : Nat → Prop} {G : Gh} {s : St} (w : World) (hm : Mem p.toPb K w0 b O G w s) (hox : OkX p) (hwf : Wf p.toPb s) (hN : p.ns.length = K.n1) (hpe : ∀ a m d, s.h m a d = true ↔ PEx p a m d) :
   Calls Tryz.prog 53 #[.pointer (some ⟨b, 0, none⟩)] w (GetSolX p w) := by
 obtain ⟨i1, hi, hz0, hz1, hz2⟩ := info_parts boolX_info
 obtain ⟨j0, ji, jz0, jz1, jz2⟩ := info_parts rowi_info
 obtain ⟨MB, hMB⟩ : ∃ M, (List.replicate K.n1 (Value.bool false)).toArray = M := ⟨_, rfl⟩
 obtain ⟨MR, hMR⟩ : ∃ M, (List.replicate K.n1 (Value.slice none 0 0)).toArray = M := ⟨_, rfl⟩
 have hN2 : K.n1 ≤ 8192 := by have := (sup_parts hox.ok.sup).1; omega
 have hmkB := fun w => run_make1 (P := Tryz.prog) Tryz.underlying51 hi hz0 hz1 hz2 rfl K.n1 (by omega) (by omega) MB hMB w
 have hmkR := fun w => run_make1 (P := Tryz.prog) Tryz.underlying52 ji jz0 jz1 jz2 rfl K.n1 (by omega) (by omega) MR hMR w
 have HMB := Lib.hid hMB
 have HMR := Lib.hid hMR
 have HOX := Lib.hid hox
 have HPE := Lib.hid hpe
 have HWF := Lib.hid hwf
 have HN1 := Lib.hid hN
 have HM0 := Lib.hid hm
 clear hMB hMR hox hpe hwf hN hm
 go_enter Tryz.func53, Tryz.ntmps53
 go_upto_region 1 with fail
 refine wp_named (fun W => ∃ b0, w.heap.size = b0 ∧ Blk W b0 [.slice none 0 0, .slice none 0 0] ∧ Below w.heap.size w W) ⟨_, rfl, ?_, ?_⟩ ?_
 · exact kbn
 · go_grown
 rintro W ⟨b0, e0, B0, hB⟩
 rw [e0]
 have G0 : w.heap.size ≤ b0 := by omega
 clear e0
 have ⟨L0, C0, F0⟩ := B0
 have HB02 := Lib.hid B0
 have HM := Lib.hid (HM0.out.call hB)
 have HK02 : Hid (Kept [] w W) := Lib.hid ((Kept.refl _ _).call hB)
 have BS := HM.out.box
 unfold sbox at BS
 have ⟨LS, CS, FS⟩ := BS
 clear C0 F0 HM0
 go_upto_region 2 with fail
 clear CS FS
 refine wp_region_E 6 (fun w' => SX0 W w') (by kernel_rfl) (by (exact kp0)) (fun hHeld => ?_)
 refine WE_tk 0 ?_
 refine WE_tk 2 ?_
 refine WE_R [1, 3, 4, 5] (fun j v w t => match j with | 1 => ∃ g, v = .slice (some ⟨g, 0, none⟩) K.n1 K.n1 ∧ ObjT w t g (.cells MB 4 (0, 0)) 1 ∧ W.heap.size ≤ g | 3 => ∃ g, v = .slice (some ⟨g, 0, none⟩) K.n1 K.n1 ∧ ObjT w t g (.cells MR 31 (0, 0)) 2 ∧ W.heap.size ≤ g | 4 => ∃ g g', v = .agg #[.slice (some ⟨g, 0, none⟩) K.n1 K.n1, .slice (some ⟨g', 0, none⟩) K.n1 K.n1] ∧ (ObjT w t g (.cells MB 4 (0, 0)) 1 ∧ W.heap.size ≤ g) ∧ (ObjT w t g' (.cells MR 31 (0, 0)) 2 ∧ W.heap.size ≤ g') | 5 => ∃ g, v = .pointer (some ⟨g, 0, none⟩) ∧ ObjT w t g (.cells #[.slice none 0 0, .slice none 0 0] 54 (0, 0)) 3 ∧ W.heap.size ≤ g | _ => False) rfl (by kernel_rfl) (fun vs => by simp only [putU, dstOf, Option.bind, List.getElem?_cons_zero, List.getElem?_cons_succ, Act.put, List.setIfInBounds_toArray, List.set_cons_zero, List.set_cons_succ]; rfl) ?_ ?_ ?_ ?_
 · intro j hj
   simp only [List.mem_cons, List.not_mem_nil, or_false] at hj
   rcases hj with rfl | rfl | rfl | rfl
   all_goals (intro v w t w' t' h hg; revert h; (repeat' first | (with_reducible exact id) | (exact fun h => BlkT.grow h hg) | (exact fun h => ObjT.grow h hg) | (exact fun h => Pcs.grow h hg) | (exact fun h => Pcv.grow h hg) | (exact fun h => hg.1.blk (by simp) h) | (exact fun h => Nat.lt_of_lt_of_le h hg.1.size) | (refine Exists.imp (fun _ => ?_)) | (refine And.imp ?_ ?_)))
 · intro w9 t9 hg9; (have hHeld9 := keptTrans hHeld.1 hg9.1); exact SX0.of hHeld9
 · refine ⟨?_, ?_, ?_, ?_, trivial⟩
   · refine ⟨_, _, rfl, [], by kernel_rfl, fun vs w t hg hyp K hK => ?_⟩
     (try dsimp only)
     have hHg := keptTrans hHeld.1 hg.1
     have hHs := SX0.of hHg
     go_simp
     refine hK.out ?_ _ _ (Go.Df.mark t w.heap.size 1) ?_ ?_ ?_
     rotate_left
     · simp only [Act.put, List.setIfInBounds_toArray, List.set_cons_zero, List.set_cons_succ]; rfl
     · exact Grow.mark ((Kept.refl _ _).alloc _) (Nat.le_refl _)
     · exact ⟨_, rfl, ObjT.new _ _ _ _, hHg.size⟩
   · refine ⟨_, _, rfl, [], by kernel_rfl, fun vs w t hg hyp K hK => ?_⟩
     (try dsimp only)
     have hHg := keptTrans hHeld.1 hg.1
     have hHs := SX0.of hHg
     go_simp
     refine hK.out ?_ _ _ (Go.Df.mark t w.heap.size 2) ?_ ?_ ?_
     rotate_left
     · simp only [Act.put, List.setIfInBounds_toArray, List.set_cons_zero, List.set_cons_succ]; rfl
     · exact Grow.mark ((Kept.refl _ _).alloc _) (Nat.le_refl _)
     · exact ⟨_, rfl, ObjT.new _ _ _ _, hHg.size⟩
   · refine ⟨_, _, rfl, [1, 3], by kernel_rfl, fun vs w t hg hyp K hK => ?_⟩
     (try dsimp only)
     dsimp only [HypsR] at hyp
     obtain ⟨⟨g, hx1, h1⟩, ⟨g', hx3, h3⟩, -⟩ := hyp
     have hHg := keptTrans hHeld.1 hg.1
     have hHs := SX0.of hHg
     go_simp
     refine hK.out ?_ _ _ t ?_ ?_ ?_
     rotate_left
     · simp only [Act.put, List.setIfInBounds_toArray, List.set_cons_zero, List.set_cons_succ, hx1, hx3]; rfl
     · exact Grow.refl _ _
     · exact ⟨_, _, rfl, h1, h3⟩
   · refine ⟨_, _, rfl, [], by kernel_rfl, fun vs w t hg hyp K hK => ?_⟩
     (try dsimp only)
     have hHg := keptTrans hHeld.1 hg.1
     have hHs := SX0.of hHg
     go_simp
     refine hK.out ?_ _ _ (Go.Df.mark t w.heap.size 3) ?_ ?_ ?_
     rotate_left
     · simp only [Act.put, List.setIfInBounds_toArray, List.set_cons_zero, List.set_cons_succ]; rfl
     · exact Grow.mark ((Kept.refl _ _).alloc _) (Nat.le_refl _)
     · exact ⟨_, rfl, ObjT.new _ _ _ _, hHg.size⟩
 intro vs wz tz hgz hyp K hK
 (try dsimp only)
 dsimp only [HypsR] at hyp
 generalize vs 1 = x1 at hyp ⊢
 generalize vs 3 = x3 at hyp ⊢
 generalize vs 4 = x4 at hyp ⊢
 generalize vs 5 = x5 at hyp ⊢
 obtain ⟨-, -, ⟨gr, gf, rfl, BR, BF⟩, ⟨g7, rfl, BG⟩, -⟩ := hyp
 have hHz := keptTrans hHeld.1 hgz.1
 clear hHeld
 have ⟨LG, CG, FG⟩ : Blk wz g7 [.slice none 0 0, .slice none 0 0] := blk_of_obj BG.1.heap
 go_simp
 refine hK.out _ _ ?_
 clear hK K
 have hne7 : gr ≠ g7 ∧ gf ≠ g7 ∧ gr ≠ gf := ⟨BR.1.ne BG.1 (by decide), BF.1.ne BG.1 (by decide), BR.1.ne BF.1 (by decide)⟩
 refine then_named (fun V => Blk V g7 [.slice (some ⟨gr, 0, none⟩) K.n1 K.n1, .slice (some ⟨gf, 0, none⟩) K.n1 K.n1] ∧ V.heap[gr]? = some (.cells MB 4 (0, 0)) ∧ V.heap[gf]? = some (.cells MR 31 (0, 0)) ∧ Kept [] W V) ⟨?_, ?_, ?_, ?_⟩ ?_
 · exact ((blk_of_obj BG.1.heap : Blk wz g7 [.slice none 0 0, .slice none 0 0]).set 0 _).set 1 _
 · exact (RowKit.Below.heap_setCell _ _ _ _ hne7.1).trans ((RowKit.Below.heap_setCell _ _ _ _ hne7.1).trans BR.1.heap)
 · exact (RowKit.Below.heap_setCell _ _ _ _ hne7.2.1).trans ((RowKit.Below.heap_setCell _ _ _ _ hne7.2.1).trans BF.1.heap)
 · exact (hHz.set g7 0 _ (Or.inr BG.2)).set g7 1 _ (Or.inr BG.2)
 rintro V ⟨BV7, HR0, HF0, hkV⟩
 have hgr2 : W.heap.size ≤ gr := BR.2
 have hgf2 : W.heap.size ≤ gf := BF.2
 have hg72 : W.heap.size ≤ g7 := BG.2
 have hne7' := hne7
 have hbV : Hid (Below W.heap.size W V) := Lib.hid hkV.toBelow
 have HB7 := Lib.hid BV7
 have hgfV : gf < V.heap.size := (Array.getElem?_eq_some_iff.1 HF0).1
 have SA0 : Hid (SolAX p V gr K.n1 0) := Lib.hid ⟨(Array.getElem?_eq_some_iff.1 HR0).1, fun x hx => by have h9 := rep_at (v := Value.bool false) hx; rw [HMB.out] at h9; simpa [World.cell?, HR0] using h9, fun x => by simp [World.frozen?, HR0]⟩
 have SB0 : Hid (SolBX p V.heap.size V gf K.n1 0) := Lib.hid ⟨hgfV, hgfV, fun x hx => by
   have h9 := rep_at (v := Value.slice none 0 0) hx
   rw [HMR.out] at h9
   exact ⟨none, 0, 0, by simpa [World.cell?, HF0] using h9, by simpa using Ints.empty V none, by omega, fun a ha => by cases ha⟩, fun x => by simp [World.frozen?, HF0]⟩
 have hbase : ∃ base, V.heap.size = base := ⟨_, rfl⟩
 obtain ⟨base, hbase⟩ := hbase
 rw [hbase] at SB0
 have HBA := Lib.hid hbase
 have hgrb : gr < base := by have := (Array.getElem?_eq_some_iff.1 HR0).1; omega
 have hgfb : gf < base := by omega
 have h2b : W.heap.size ≤ base := by have := hkV.size; omega
 have hb02 : b0 < W.heap.size := HB02.out.1
 have MV := Lib.hid (HM.out.call hbV.out)
 have BSV := MV.out.box
 unfold sbox at BSV
 have ⟨LSV, CSV, FSV⟩ := BSV
 clear BV7 HR0 HF0 hkV BR BG BF hmkB hmkR hHz hgz hne7 hbase BSV
 go_wp2_with fail
 go_loopw [25] (fun s25 wr => ∃ (i : Nat), i ≤ K.n1 ∧ s25 = .int .i64 i ∧ Hid (Below W.heap.size W wr) ∧ Hid (Blk wr g7 [.slice (some ⟨gr, 0, none⟩) K.n1 K.n1, .slice (some ⟨gf, 0, none⟩) K.n1 K.n1]) ∧ Hid (SolAX p wr gr K.n1 i) ∧ Hid (SolBX p base wr gf K.n1 i) ∧ base ≤ wr.heap.size) (fun s25 _ => K.n1 - (intOf s25).toNat)
 case atStart => exact ⟨0, Nat.zero_le _, rfl, hbV, HB7, SA0, SB0, Nat.le_of_eq HBA.out.symm⟩
 case round =>
 clear SA0 SB0 HB7 hbV CSV FSV
 obtain ⟨i, hi, rfl, hbr, HB7, SA, SB, hbz⟩ := hrel
 have hkr2 : Kept [] W wr := (Kept.refl _ _).call hbr.out
 have MR := Lib.hid (HM.out.call hbr.out)
 by_cases hlt : i < K.n1
 case neg =>
   obtain rfl : i = K.n1 := by omega
   have ⟨L7, C7, F7⟩ := HB7.out
   have ⟨L1r, C1r, F1r⟩ := hkr2.blk (by simp) HB02.out
   have hbw : Below w.heap.size w wr := HK02.out.toBelow.trans (hbr.out.mono HK02.out.size)
   have hne1 : b0 ≠ g7 := by omega
   go_wp2_with fail
   refine retNamed (fun X => Blk X b0 [.slice (some ⟨gr, 0, none⟩) K.n1 K.n1, .slice (some ⟨gf, 0, none⟩) K.n1 K.n1] ∧ Kept [b0] wr X) ⟨((hkr2.blk (by simp) HB02.out).set 0 _).set 1 _, ((Kept.refl [b0] wr).set b0 0 _ (.inl (by simp))).set b0 1 _ (.inl (by simp))⟩ ?_
   rintro X ⟨BX, hkX⟩
   have ⟨LX, CX, FX⟩ := BX
   have SX := SA.out.kept hkX (by simp; omega)
   have TX := SB.out.kept hkX (by simp; omega) (by simp; omega)
   refine bodyPost_ret (by simp [results, Tryz.results53, go_sem, CX]; try rfl) rfl ?_
   refine ⟨_, _, K.n1, rfl, HN1.out.symm, fun Y XX hk2 hXX => ?_, hkX.below hbw hbw.size (by simpa using G0)⟩
   have hWw : w.heap.size ≤ W.heap.size := HK02.out.size
   have SY := SX.kept hk2 (fun h => by have := hXX _ h; omega)
   have TY := TX.kept hk2 (fun h => by have := hXX _ h; omega) (fun x hx => by have := hXX x hx; omega)
   refine ⟨⟨by simp, fun _ => ⟨gr, 0, rfl, SY.1, fun x hx => ?_⟩⟩, ⟨by simp, fun _ => ⟨gf, 0, rfl, TY.2.1, fun x hx => ?_⟩⟩⟩
   · rw [Nat.zero_add, SY.2.1 x hx, decide_eq_true hx]
     simp [gbl, hx]
   · obtain ⟨Ax, mx, cx, h1, h2, h3, -⟩ := TY.2.2.1 x hx
     rw [if_pos hx] at h2
     refine ⟨Ax, mx, cx, by rw [Nat.zero_add]; exact h1, ?_, h3⟩
     have : gil ((List.range K.n1).map (solFX p)) x = solFX p x := by simp [gil, hx]
     rw [this]
     exact h2
 have ⟨L7, C7, F7⟩ := HB7.out
 have hi1 : (i : Int) < (K.n1 : Int) := by omega
 have car := SA.out.2.1 i hlt
 have far := SA.out.2.2 i
 have lar := SA.out.1
 obtain ⟨bm, hbm⟩ := HM.out.hsm i hlt
 have HBM := Lib.hid hbm
 have r9 : wr.cell? ⟨K.hr, i, none⟩ = some (.map (some bm)) := by have := MR.out.held.cell hlt; rwa [hbm] at this
 have lhr : K.hr < wr.heap.size := (MR.out.og _ MR.out.oh).2
 obtain ⟨Av, nv, cv, lv, hev, hbv, hnv, -, -, hel⟩ := MR.out.hbits i 0 hlt
 have HBV := Lib.hid hbv
 have HEL := Lib.hid (hel 0)
 have hrun0 : (Instr.lookup 157 (.map (some bm)) (.int .i64 0) false).run Tryz.prog wr.drew = .ok (.slice Av nv cv) wr.drew := by
   have := ((MR.out.call ((Kept.refl [] wr).drew.toBelow)).held.is i bm hlt hbm).look Tryz.lawInt Tryz.mapIB (Tryz.zeroBits wr.drew) (Tryz.keyInt 0 (by decide))
   rwa [show G.hv i (.int .i64 0) = .slice Av nv cv from hev] at this
 clear hbm hev hbv hel
 go_upto_region 6 with fail
 refine wp_region_E 7 (fun w' => SX0 wr w') (by kernel_rfl) (by (exact kp0)) (fun hHeld => ?_)
 refine WE_tk 0 ?_
 refine WE_tk 1 ?_
 refine WE_tk 2 ?_
 refine WE_tk 3 ?_
 refine WE_step 4 rfl (by kernel_rfl) (fun K hK => ?_)
 go_simp
 refine hK.out _ _ ?_ (fun hHeld => ?_)
 · (exact kp0)
 clear hK K
 refine WE_put ?_
 refine WE_step 5 rfl (by kernel_rfl) (fun K hK => ?_)
 go_simp
 (go_at_call 93; refine (bhas_any Av nv cv 0 lv _ (HBV.out.kept hHeld.1) (by omega)).mono ?_; rintro e w3 ⟨rfl, ew3⟩; have hs3 : SX0 wr w3 := SX0.of (ew3 ▸ hHeld.1); clear ew3)
 (try go_wp2_with fail)
 refine hK.out _ _ ?_ (fun hHeld => ?_)
 · (exact kp0)
 clear hK K
 refine WE_put ?_
 refine WE_tk 6 ?_
 refine WE_last rfl (by kernel_rfl) (fun K hK => ?_)
 go_simp
 refine hK.out _ _ ?_
 clear hK K
 have hk3 : Kept [] wr w3 := hHeld.1
 have e9 : hasB lv 0 = solRX p i := solRX_eq (by rw [HEL.out]; exact HPE.out 0 i 0)
 rw [e9]
 have hb3' : Below W.heap.size W w3 := hk3.below hbr.out hbr.out.size (by simp)
 have hs3 : wr.heap.size ≤ w3.heap.size := hk3.size
 refine act_named (fun Z => SolAX p Z gr K.n1 (i + 1) ∧ SolBX p base Z gf K.n1 i ∧ Below W.heap.size W Z ∧ Blk Z g7 [.slice (some ⟨gr, 0, none⟩) K.n1 K.n1, .slice (some ⟨gf, 0, none⟩) K.n1 K.n1] ∧ base ≤ Z.heap.size) ⟨(SA.out.kept hk3 (by simp)).set hlt, (SB.out.kept hk3 (by simp) (by simp)).kept ((Kept.refl [gr] _).set gr i _ (.inl (by simp))) (by simpa using hne7'.2.2.symm) (by simpa using hgrb), hb3'.setCell (show W.heap.size ≤ gr from hgr2) _, ((Kept.refl [gr] _).set gr i _ (.inl (by simp))).blk (by simpa using hne7'.1.symm) (hk3.blk (by simp) HB7.out), by simp [World.setCell]; omega⟩ ?_
 rintro Z ⟨SAZ, SBZ, hbZ, BZ, hzZ⟩
 have SA1 := Lib.hid SAZ
 have SB1 := Lib.hid SBZ
 have HBZ := Lib.hid hbZ
 have HB7Z := Lib.hid BZ
 have MZ := Lib.hid (HM.out.call hbZ)
 obtain ⟨r, er⟩ : ∃ r, Z.heap.size = r := ⟨_, rfl⟩
 have HER := Lib.hid er
 clear C7 F7 L7 car far lar SAZ SBZ hbZ BZ hk3 hb3' hs3 SA SB HB7 hbr MR hHeld e9 er hkr2 r9 lhr hrun0 HBV HEL
 go_upto_region 9 with (at_range; refine wpList_range_mapO (P := Tryz.prog) (k := 3) (z := .slice none 0 0) (n := G.hc i) (f := G.hv i) rfl _ _ rfl 166 Tryz.lawInt Tryz.mapIB (some bm) rfl (fun b hb => by injection hb with hb; subst hb; exact MZ.out.held.is i bm hlt HBM.out) (fun hn => by cases hn) ?_; intro w4 left cnt hrg hleft hk4 hs4)
 rw [HER.out] at hrg ⊢
 have HRG := Lib.hid hrg
 have HK4 := Lib.hid hk4
 have hsm : ∀ a y, s.h i a y = true → (a : Int) < 1025 := fun a y h => by
   have h1 := (HWF.out.rng _ _ _ h).2.1
   have h2 := HOX.out.ok.f2
   omega
 have HSM := Lib.hid hsm
 have HU0 : Hid (UnL (s.h i) [] left) := Lib.hid (UnL.init fun a y h => by
   cases hh : s.h i a y with
   | false => rfl
   | true =>
     have h1 := HSM.out a y hh
     have h2 := hleft (.int .i64 (a : Int)) _ (Tryz.keyInt (a : Int) (WalkArith.wf_i64 (by omega))) h
     obtain ⟨A', n', c', l', e1, e2, -, -, -, e3⟩ := MZ.out.hbits i a hlt
     rw [h2] at e1
     injection e1 with e4 e5 e6
     subst e5
     have h3 : l' = [] := List.eq_nil_of_length_eq_zero e2.1
     subst h3
     rw [← e3, hasB_nil] at hh
     cases hh)
 have hz4 : Below Z.heap.size Z w4 := hk4.toBelow
 have HZ4 := Lib.hid hz4
 clear hleft hsm hrg hk4 hz4 hs4
 go_wp2_with fail
 go_frame
 go_loopw [7] (fun s7 wq => ∃ (left : Lit → Bool) (cnt : Nat) (A : Option Addr) (m c : Nat) (l : List Nat), s7 = .slice A m c ∧ Hid (Bts wq A m l) ∧ m ≤ 1024 ∧ Hid (A = none → m = 0) ∧ Hid (∀ a, A = some a → a.block ≠ r) ∧ Hid (UnL (s.h i) l left) ∧ Hid (RgO Tryz.prog 3 (.slice none 0 0) wq (some bm) r (G.hc i) (G.hv i) left cnt) ∧ Hid (Below Z.heap.size Z wq)) (fun _ wq => leftO wq (some bm) r)
 case atStart => exact ⟨left, cnt, none, 0, 0, [], rfl, Lib.hid (Bts.nil _), by omega, Lib.hid (fun _ => rfl), Lib.hid (fun a ha => by cases ha), HU0, HRG, HZ4⟩
 case round =>
 clear HU0 HRG HZ4 HK4
 rename World => wq
 obtain ⟨left, cnt, A, m, c, l, rfl, HBT, hm, HA, HAr, HU, HRG, HZQ⟩ := hrel
 have hrq : r < wq.heap.size := RgO.lt HRG.out
 have MQ := Lib.hid (MZ.out.call HZQ.out)
 go_upto_region 10 with (at_next; refine wpList_next_mapO rfl _ rfl .i64 Tryz.lawInt Tryz.underlying3 (some bm) rfl HRG.out ?_ ?_)
 · intro hc0 hl0
   have HL0 : Hid (∀ y, hasB l y = true ↔ ∃ a, s.h i a y = true) := Lib.hid (fun y => by rw [HU.out y]; exact ⟨fun ⟨a, _, h⟩ => ⟨a, h⟩, fun ⟨a, h⟩ => ⟨a, hl0 _, h⟩⟩)
   have ⟨L7, C7, F7⟩ := HB7Z.out.later HZQ.out
   have hkq : Kept [] Z wq := (Kept.refl _ _).call HZQ.out
   have SBQ := Lib.hid (SB1.out.kept hkq (by simp) (by simp))
   have SAQ := Lib.hid (SA1.out.kept hkq (by simp))
   have lfq := SBQ.out.2.1
   have ffq := SBQ.out.2.2.2 i
   obtain ⟨Af, mf, cf, hcf, -, -, -⟩ := SBQ.out.2.2.1 i hlt
   have hZq : base ≤ wq.heap.size := Nat.le_trans hzZ hkq.size
   clear hl0 hkq
   go_upto_region 12 with fail
   refine wp_region_E 7 (fun w' => SX0 wq w') (by kernel_rfl) (by (exact kp0)) (fun hHeld => ?_)
   refine WE_tk 0 ?_
   refine WE_tk 1 ?_
   refine WE_tk 2 ?_
   refine WE_tk 3 ?_
   refine WE_step 4 rfl (by kernel_rfl) (fun K hK => ?_)
   go_simp
   (first | (go_at_call 96; refine (without_any A m c l _ (HBT.out.kept ((Kept.refl [] _).drew)) hm HA.out).mono ?_; rintro e w6 ⟨A6, n6, l6, rfl, hbt6, hh6, hn6, hfr6, hA6, hb6⟩; have HH6 := Lib.hid hh6; have HBT6 := Lib.hid hbt6; clear hh6 hbt6 hfr6 hA6) | (go_at_call 95; refine (blist_any A6 n6 n6 l6 _ HBT6.out hn6).mono ?_; rintro e w7 ⟨A7, n7, c7, rfl, hs7, hfr7, hb7⟩; have HS7 := Lib.hid hs7; have HFR7 := Lib.hid hfr7; clear hs7 hfr7))
   (try go_wp2_with fail)
   refine hK.out _ _ ?_ (fun hHeld => ?_)
   · (exact kp0)
   clear hK K
   refine WE_put ?_
   refine WE_step 5 rfl (by kernel_rfl) (fun K hK => ?_)
   go_simp
   (first | (go_at_call 96; refine (without_any A m c l _ (HBT.out.kept ((Kept.refl [] _).drew)) hm HA.out).mono ?_; rintro e w6 ⟨A6, n6, l6, rfl, hbt6, hh6, hn6, hfr6, hA6, hb6⟩; have HH6 := Lib.hid hh6; have HBT6 := Lib.hid hbt6; clear hh6 hbt6 hfr6 hA6) | (go_at_call 95; refine (blist_any A6 n6 n6 l6 _ HBT6.out hn6).mono ?_; rintro e w7 ⟨A7, n7, c7, rfl, hs7, hfr7, hb7⟩; have HS7 := Lib.hid hs7; have HFR7 := Lib.hid hfr7; clear hs7 hfr7))
   (try go_wp2_with fail)
   refine hK.out _ _ ?_ (fun hHeld => ?_)
   · (exact kp0)
   clear hK K
   refine WE_put ?_
   refine WE_tk 6 ?_
   refine WE_last rfl (by kernel_rfl) (fun K hK => ?_)
   go_simp
   refine hK.out _ _ ?_
   clear hK K
   have hk7 : Kept [] wq w7 := hHeld.1
   have hbr7 : Below Z.heap.size Z w7 := HZQ.out.trans (hk7.toBelow.mono HZQ.out.size)
   have hkz7 : Kept [] Z w7 := (Kept.refl _ _).call hbr7
   have hks : Kept [gf] w7 (w7.setCell ⟨gf, i, none⟩ (.slice A7 n7 c7)) := (Kept.refl [gf] w7).set gf i _ (.inl (by simp))
   have e7 : ofNats (elemsB l6 (n6 * 64)) = solFX p i := by
     rw [← HBT6.out.1]
     refine solFX_eq HOX.out fun y => ?_
     rw [HH6.out y, Bool.and_eq_true, HL0.out y]
     simp only [bne_iff_ne, ne_eq]
     exact ⟨fun ⟨⟨a, h⟩, h2⟩ => ⟨⟨a, (HPE.out a i y).1 h⟩, h2⟩, fun ⟨⟨a, h⟩, h2⟩ => ⟨⟨a, (HPE.out a i y).2 h⟩, h2⟩⟩
   have h7 : Ints w7 A7 n7 (solFX p i) := by rw [← e7]; exact HS7.out.1
   have h7n : n7 ≤ 9223372036854775807 := by have := HS7.out.2.1; have := HS7.out.2.2.1; omega
   have h7b : ∀ a, A7 = some a → base ≤ a.block := fun a ha => by have h1 := (HFR7.out a ha).1; have h2 := hb6.size; have h3 : wq.heap.size ≤ wq.drew.heap.size := Nat.le_refl _; omega
   have hb27 : Below W.heap.size W w7 := HBZ.out.trans (hbr7.mono HBZ.out.size)
   refine act_named (fun Y => Below W.heap.size W Y ∧ Blk Y g7 [.slice (some ⟨gr, 0, none⟩) K.n1 K.n1, .slice (some ⟨gf, 0, none⟩) K.n1 K.n1] ∧ SolAX p Y gr K.n1 (i + 1) ∧ SolBX p base Y gf K.n1 (i + 1) ∧ base ≤ Y.heap.size) ⟨hb27.setCell (show W.heap.size ≤ gf from hgf2) _, hks.blk (by simpa using hne7'.2.1.symm) (hkz7.blk (by simp) HB7Z.out), (SA1.out.kept hkz7 (by simp)).kept hks (by simpa using hne7'.2.2), (SB1.out.kept hkz7 (by simp) (by simp)).set hlt h7 h7n h7b, by simp [World.setCell]; have := hk7.size; omega⟩ ?_
   rintro Y ⟨hbY, BY, SAY, SBY, hzY⟩
   go_wp2_with fail
   exact ⟨⟨i + 1, by omega, by go_num, Lib.hid hbY, Lib.hid BY, Lib.hid SAY, Lib.hid SBY, hzY⟩, by simp [intOf]; omega⟩
 · intro x w5 cnt5 hwx hlx hrg5 hlt5 hk5 hs5 hen
   have hb5 : Below Z.heap.size Z w5 := Kept.below HZQ.out HZQ.out.size (fun y hy => by have h1 := List.mem_singleton.1 hy; have h2 := HER.out; omega) hk5
   have M5 := Lib.hid (MZ.out.call hb5)
   obtain ⟨A', n', c', l', hfv, hbt', hn', hstep⟩ : ∃ (A' : Option Addr) (n' c' : Nat) (l' : List Nat), G.hv i (.int .i64 x) = .slice A' n' c' ∧ Bts w5 A' n' l' ∧ n' ≤ 1024 ∧ ∀ l2, (∀ y, hasB l2 y = (hasB l y || hasB l' y)) → UnL (s.h i) l2 (fun y => left y && !y.sameKey (.int .i64 x)) := by
     by_cases hx0 : x < 0
     · refine ⟨none, 0, 0, [], M5.out.hneg i x hlt hx0, Bts.nil _, by omega, fun l2 h2 => HU.out.neg hx0 (fun y => by rw [h2 y, hasB_nil, Bool.or_false])⟩
     · obtain ⟨a, rfl⟩ := Int.eq_ofNat_of_zero_le (show 0 ≤ x by omega)
       obtain ⟨A', n', c', l', e1, e2, e3, -, -, e4⟩ := M5.out.hbits i a hlt
       exact ⟨A', n', c', l', e1, e2, e3, fun l2 h2 => HU.out.step (fun y => by rw [h2 y, e4 y])⟩
   rw [hfv] at hen ⊢
   have HB5 := Lib.hid hbt'
   have HST := Lib.hid hstep
   have HBQ5 : Hid (Bts w5 A m l) := Lib.hid (HBT.out.keptX hk5 (fun _ a ha => by simpa using HAr.out a ha))
   have HRG5 := Lib.hid hrg5
   have HLT5 := Lib.hid hlt5
   have HK5 := Lib.hid hb5
   clear hstep hbt' hrg5 hk5 hlt5 hlx hwx hb5 hfv hs5
   go_wp2_with (go_at_call 94; refine (union_any A A' m c n' c' l l' _ HBQ5.out HB5.out hm hn').mono ?_; rintro e w6 ⟨A6, n6, l6, rfl, hbt6, hh6, hn6, hfr6, hA6, hb6⟩)
   have hrg6 := HRG5.out.kept ((Kept.refl [] w5).call hb6) (by simp) (by simp)
   exact ⟨⟨_, cnt5, A6, n6, n6, l6, rfl, Lib.hid hbt6, hn6, Lib.hid hA6, Lib.hid (fun a ha => by have h1 := (hfr6 a ha).1; have h2 := RgO.lt HRG5.out; omega), Lib.hid (HST.out l6 hh6), Lib.hid hrg6, Lib.hid (HK5.out.trans (hb6.mono HK5.out.size))⟩, by rw [hrg6.left_eq, HRG.out.left_eq]; exact HLT5.out⟩
end Go.Proofs.YtooejoajojanjaaGreatDoor
namespace Go.Proofs.YtooejoajojanjaaGreatDoor
open Go.RowKit Go.Df
attribute [local go_sem ↓] Go.wp_at_zero Go.wp_at_succ
set_option maxRecDepth 100000 in
set_option maxHeartbeats 4000000 in
theorem matches_any (A1 A2 : Option Addr) (n1 c1 n2 c2 : Nat) (mn : Int) (p q m1 m2 : Nat) (ea eb : Nat) (ek ec : Int) (ns : List Sp.Nd) (st : Int → Int) (en : Int → Int → Bool) (w : World) (hn : Nds w A1 n1 ns) (hs : n1 ≤ 1000000)
   (ha : ea < n1) (hb : eb < n1) (hc : ek ≠ 1 → ek ≠ 5 → ek ≠ 2 → 0 ≤ ec ∧ ec < n1) (hw : ∀ j, j < n1 → (Lit.int .i64 (gn ns j).f).wf = true) (hst : ∀ x, 0 ≤ st x ∧ st x ≤ 1000000)
   (Mp : MapV Tryz.prog 3 3 (.int .i64 0) w p m1 (mv st)) (Mq : MapV Tryz.prog 214 4 (.bool false) w q m2 (mb en)) :
   Calls Tryz.prog 125 #[.agg #[.slice A1 n1 c1, .slice A2 n2 c2, .int .i64 mn], .map (some p), .map (some q), .agg #[.int .i64 ea, .int .i64 eb, .int .i64 ek, .int .i64 ec]] w fun e w' =>
     e = .returned (.bool (Sp.matchN ek ec ea (gn ns ea) (gn ns eb) (gn ns ec.toNat) (en ec (st (gn ns ea).f)))) ∧ Below w.heap.size w w' := by
 have HWF := Lib.hid hw
 have HST := Lib.hid hst
 have MP := Lib.hid Mp
 have MQ := Lib.hid Mq
 have HC := Lib.hid hc
 obtain ⟨b, o, rfl, hl, hcl⟩ := hn.2 (by omega)
 obtain ⟨p1, p2, p3⟩ := hcl ea ha
 obtain ⟨q1, q2, q3⟩ := hcl eb hb
 have HCl := Lib.hid hcl
 clear hn hc hcl hw hst Mp Mq
 go_enter Tryz.func125, Tryz.ntmps125
 go_upto_region 1 with fail
 refine wp_named (fun W => ∃ b0 b1, w.heap.size = b0 ∧ w.heap.size + 1 = b1 ∧ Blk W b0 [.slice (some ⟨b, o, none⟩) n1 c1, .slice A2 n2 c2, .int .i64 mn] ∧ Blk W b1 [.int .i64 ea, .int .i64 eb, .int .i64 ek, .int .i64 ec] ∧ Below w.heap.size w W) ⟨_, _, rfl, rfl, ?_, ?_, ?_⟩ ?_
 · exact (Blk.new _ _ _ _ (by first | rfl | simp)).alloc _
 · exact kbn
 · go_grown
 rintro W ⟨b0, b1, e0, e1, B0, B1, hB⟩
 rw [e1, e0]
 have G0 : w.heap.size ≤ b0 := by omega
 have n01 : b0 ≠ b1 := by omega
 have G1 : w.heap.size ≤ b1 := by omega
 have n10 : b1 ≠ b0 := by omega
 clear e0 e1
 have ⟨L0, C0, F0⟩ := B0
 have ⟨L1, C1, F1⟩ := B1
 have hlW : b < W.heap.size := Nat.lt_of_lt_of_le hl hB.size
 obtain ⟨f1, k1, i1, e1⟩ : ∃ f k i, gn ns ea = ⟨f, k, i⟩ := ⟨_, _, _, rfl⟩
 obtain ⟨f2, k2, i2, e2⟩ : ∃ f k i, gn ns eb = ⟨f, k, i⟩ := ⟨_, _, _, rfl⟩
 rw [e1] at p1 p2 p3
 rw [e2] at q1 q2 q3
 have r1 : W.cell? ⟨b, o + ea * 3, none⟩ = some (.int .i64 f1) := (hB.cell (p := ⟨b, _, none⟩) hl).trans p1
 have r2 : W.cell? ⟨b, o + ea * 3 + 1, none⟩ = some (.int .i64 k1) := (hB.cell (p := ⟨b, _, none⟩) hl).trans p2
 have r3 : W.cell? ⟨b, o + ea * 3 + 2, none⟩ = some (.int .i64 i1) := (hB.cell (p := ⟨b, _, none⟩) hl).trans p3
 have r4 : W.cell? ⟨b, o + eb * 3, none⟩ = some (.int .i64 f2) := (hB.cell (p := ⟨b, _, none⟩) hl).trans q1
 have r5 : W.cell? ⟨b, o + eb * 3 + 1, none⟩ = some (.int .i64 k2) := (hB.cell (p := ⟨b, _, none⟩) hl).trans q2
 have r6 : W.cell? ⟨b, o + eb * 3 + 2, none⟩ = some (.int .i64 i2) := (hB.cell (p := ⟨b, _, none⟩) hl).trans q3
 have E1 := Lib.hid e1
 have E2 := Lib.hid e2
 have x1 : (0 : Int) ≤ (ea : Int) := by omega
 have x2 : (ea : Int) < (n1 : Int) := by omega
 have x3 : (0 : Int) ≤ (eb : Int) := by omega
 have x4 : (eb : Int) < (n1 : Int) := by omega
 clear p1 p2 p3 q1 q2 q3 e1 e2
 go_upto_region 1 with fail
 go_cut [9, 10] (fun s t wx => ∃ g5 g6 : Nat, s = .pointer (some ⟨g5, 0, none⟩) ∧ t = .pointer (some ⟨g6, 0, none⟩) ∧ Blk wx g5 [.int .i64 f1, .int .i64 k1, .int .i64 i1] ∧ Blk wx g6 [.int .i64 f2, .int .i64 k2, .int .i64 i2] ∧ Kept [] W wx)
 case first =>
   go_region_held3 (fun w' => SX0 W w') (exact kp0) (fail)
   all_goals
     go_wp2_with fail
     go_meet
     refine ⟨_, _, rfl, rfl, ?_, ?_, ?_⟩
     · (exact kpb)
     · (exact kpb)
     · (exact kpt0)
 case rest =>
   obtain ⟨g5, g6, rfl, rfl, B5, B6, hkc⟩ := hcut
   have BC0 := hkc.blk (by simp) B0
   have BC1 := hkc.blk (by simp) B1
   have ⟨L0', C0', F0'⟩ := BC0
   have ⟨L1', C1', F1'⟩ := BC1
   have ⟨L5, C5, F5⟩ := B5
   have ⟨L6, C6, F6⟩ := B6
   have hBc := hkc.below hB hB.size (by simp)
   have HF : Hid (Sp.matchN ek ec ea (gn ns ea) (gn ns eb) (gn ns ec.toNat) (en ec (st (gn ns ea).f)) = Sp.matchN ek ec ea ⟨f1, k1, i1⟩ ⟨f2, k2, i2⟩ (gn ns ec.toNat) (en ec (st f1))) := by
     show Sp.matchN _ _ _ _ _ _ _ = _
     rw [E1.out, E2.out]
   clear C0 F0 C1 F1 r1 r2 r3 r4 r5 r6
   by_cases h1 : ek = 1
   · have t1 : (ek == 1) = true := by simpa using h1
     have HH := Lib.hid h1
     clear h1
     go_wp2_with fail
     all_goals
       go_ret
       refine ⟨ret_bool ?_, hBc⟩
       rw [HF.out, HH.out]
       clear C0' C1' C5 C6 F0' F1' F5 F6
       first | (simp_all [Sp.matchN]; done) | (simp_all [Sp.matchN]; rw [Bool.eq_iff_iff]; simp_all; try omega)
   · have t1 : (ek == 1) = false := by simpa using h1
     by_cases h5 : ek = 5
     · have t5 : (ek == 5) = true := by simpa using h5
       have HH := Lib.hid h5
       clear h5 h1
       go_wp2_with fail
       all_goals
         go_ret
         refine ⟨ret_bool ?_, hBc⟩
         rw [HF.out, HH.out]
         clear C0' C1' C5 C6 F0' F1' F5 F6
         first | (simp_all [Sp.matchN]; done) | (simp_all [Sp.matchN]; rw [Bool.eq_iff_iff]; simp_all; try omega)
     · have t5 : (ek == 5) = false := by simpa using h5
       by_cases h2 : ek = 2
       · have t2 : (ek == 2) = true := by simpa using h2
         have HH := Lib.hid h2
         clear h2 h1 h5
         go_wp2_with fail
         all_goals
           go_ret
           refine ⟨ret_bool ?_, hBc⟩
           rw [HF.out, HH.out]
           clear C0' C1' C5 C6 F0' F1' F5 F6
           first | (simp_all [Sp.matchN]; done) | (simp_all [Sp.matchN]; rw [Bool.eq_iff_iff]; simp_all; try omega)
       · have t2 : (ek == 2) = false := by simpa using h2
         obtain ⟨c0, cn⟩ := HC.out h1 h5 h2
         obtain ⟨x, rfl⟩ := Int.eq_ofNat_of_zero_le c0
         have hx : x < n1 := by omega
         obtain ⟨s1, s2, s3⟩ := HCl.out x hx
         obtain ⟨f3, k3, i3, e3⟩ : ∃ f k i, gn ns x = ⟨f, k, i⟩ := ⟨_, _, _, rfl⟩
         rw [e3] at s1 s2 s3
         have u1 : wc.cell? ⟨b, o + x * 3, none⟩ = some (.int .i64 f3) := (hBc.cell (p := ⟨b, _, none⟩) hl).trans s1
         have u2 : wc.cell? ⟨b, o + x * 3 + 1, none⟩ = some (.int .i64 k3) := (hBc.cell (p := ⟨b, _, none⟩) hl).trans s2
         have u3 : wc.cell? ⟨b, o + x * 3 + 2, none⟩ = some (.int .i64 i3) := (hBc.cell (p := ⟨b, _, none⟩) hl).trans s3
         have E3 := Lib.hid e3
         have hlc : b < wc.heap.size := Nat.lt_of_lt_of_le hl hBc.size
         obtain ⟨s, hse⟩ : ∃ s, st f1 = s := ⟨_, rfl⟩
         obtain ⟨cb, hcb⟩ : ∃ cb, en x s = cb := ⟨_, rfl⟩
         have hf1 : (Lit.int .i64 f1).wf = true := by have := HWF.out ea ha; rw [E1.out] at this; exact this
         have HK1 := Lib.hid (Tryz.keyInt f1 hf1)
         have hsb := HST.out f1
         rw [hse] at hsb
         obtain ⟨kl, hkl⟩ := Tryz.keyEdge (x : Int) s (WalkArith.wf_i64 (by omega)) (WalkArith.wf_i64 (by omega))
         have HK2 := Lib.hid hkl
         have HV1 := Lib.hid (show mv st (.int .i64 f1) = .int .i64 s from congrArg _ hse)
         have HV2 := Lib.hid (show mb en (.agg #[.int .i64 (x : Int), .int .i64 s]) = .bool cb from congrArg Lit.bool hcb)
         have HF2 : Hid (Sp.matchN ek x ea (gn ns ea) (gn ns eb) (gn ns x) (en x (st (gn ns ea).f)) = (decide (k1 = if ek = 4 then 4 else 3) && decide (k3 = 2) && cb && decide (f2 = f3) && decide (k2 ≠ 1))) := by
           show Sp.matchN _ _ _ _ _ _ _ = _
           rw [E1.out, E2.out, E3.out]
           dsimp only
           rw [hse, hcb]
           unfold Sp.matchN
           rw [if_neg h1, if_neg h5, if_neg h2]
         clear s1 s2 s3 e3 hse hcb hkl hf1 hsb HF
         by_cases h4 : ek = 4
         all_goals
           first
             | (have t4 : (ek == 4) = true := by simpa using h4)
             | (have t4 : (ek == 4) = false := by simpa using h4)
           obtain ⟨lv, hlv⟩ : ∃ lv : Int, lv = (if ek = 4 then 4 else 3) := ⟨_, rfl⟩
           obtain ⟨v1, hv1⟩ : ∃ v, (k1 == lv) = v := ⟨_, rfl⟩
           obtain ⟨v2, hv2⟩ : ∃ v, (k3 == 2) = v := ⟨_, rfl⟩
           obtain ⟨v4, hv4⟩ : ∃ v, (f2 == f3) = v := ⟨_, rfl⟩
           obtain ⟨v5, hv5⟩ : ∃ v, (k2 != 1) = v := ⟨_, rfl⟩
           have HF3 : Hid (Sp.matchN ek x ea (gn ns ea) (gn ns eb) (gn ns x) (en x (st (gn ns ea).f)) = (v1 && v2 && cb && v4 && v5)) := by
             show Sp.matchN _ _ _ _ _ _ _ = _
             rw [HF2.out, ← hlv, ← hv1, ← hv2, ← hv4, ← hv5]
             rw [Bool.eq_iff_iff]
             simp
           clear HF2
           first
             | (have hl4 : lv = 4 := by rw [hlv, if_pos h4])
             | (have hl4 : lv = 3 := by rw [hlv, if_neg h4])
           subst hl4
           clear h4 h1 h2 h5 hlv
           go_upto_region 13 with fail
           refine wp_named (fun V => ∃ g, wc.heap.size = g ∧ Blk V g [.int .i64 f3, .int .i64 k3, .int .i64 i3] ∧ Kept [] wc V) ⟨_, rfl, Blk.new _ _ _ _ rfl, (Kept.refl _ _).alloc _⟩ ?_
           rintro V ⟨g, eg, Bg, hkV⟩
           rw [eg]
           have hkw : Kept [] W V := keptTrans hkc hkV
           have hBV := hkw.below hB hB.size (by simp)
           have ⟨M0, D0, G0'⟩ := hkV.blk (by simp) BC0
           have ⟨M1, D1, G1'⟩ := hkV.blk (by simp) BC1
           have ⟨M5, D5, G5'⟩ := hkV.blk (by simp) B5
           have ⟨M6, D6, G6'⟩ := hkV.blk (by simp) B6
           have ⟨Mg, Dg, Gg⟩ := Bg
           have kw0 : Kept [] w V := (Kept.refl _ _).call hBV
           have MPV := Lib.hid (MP.out.kept kw0 (by simp))
           have MQV := Lib.hid (MQ.out.kept kw0 (by simp))
           clear C0' C1' C5 C6 F0' F1' F5 F6 u1 u2 u3 eg
           cases v1 with
           | false =>
             go_wp2_with fail
             go_ret
             exact ⟨ret_bool (HF3.out.trans (by simp)).symm, hBV⟩
           | true =>
           cases v2 with
           | false =>
             go_wp2_with fail
             go_ret
             exact ⟨ret_bool (HF3.out.trans (by simp)).symm, hBV⟩
           | true =>
           cases cb with
           | false =>
             go_wp2_with (first | (at_lookup; refine wpList_look_intg _ rfl _ _ 209 rfl 3 3 Tryz.lawInt Tryz.mapII Tryz.undInt (Tryz.zeroInt _) p m1 _ rfl MPV.out (.int .i64 f1) _ rfl HK1.out s HV1.out ?_) | (at_lookup; refine wpList_look_boolg _ rfl _ _ 212 rfl 214 4 Tryz.lawEdge Tryz.mapEB Tryz.undBool (Tryz.zeroBool _) q m2 _ rfl MQV.out (.agg #[.int .i64 (x : Int), .int .i64 s]) _ rfl HK2.out false HV2.out ?_) | go_in)
             go_ret
             exact ⟨ret_bool (HF3.out.trans (by simp)).symm, hBV⟩
           | true =>
           cases v4 with
           | false =>
             go_wp2_with (first | (at_lookup; refine wpList_look_intg _ rfl _ _ 209 rfl 3 3 Tryz.lawInt Tryz.mapII Tryz.undInt (Tryz.zeroInt _) p m1 _ rfl MPV.out (.int .i64 f1) _ rfl HK1.out s HV1.out ?_) | (at_lookup; refine wpList_look_boolg _ rfl _ _ 212 rfl 214 4 Tryz.lawEdge Tryz.mapEB Tryz.undBool (Tryz.zeroBool _) q m2 _ rfl MQV.out (.agg #[.int .i64 (x : Int), .int .i64 s]) _ rfl HK2.out true HV2.out ?_) | go_in)
             go_ret
             exact ⟨ret_bool (HF3.out.trans (by simp)).symm, hBV⟩
           | true =>
           cases v5 with
           | false =>
             go_wp2_with (first | (at_lookup; refine wpList_look_intg _ rfl _ _ 209 rfl 3 3 Tryz.lawInt Tryz.mapII Tryz.undInt (Tryz.zeroInt _) p m1 _ rfl MPV.out (.int .i64 f1) _ rfl HK1.out s HV1.out ?_) | (at_lookup; refine wpList_look_boolg _ rfl _ _ 212 rfl 214 4 Tryz.lawEdge Tryz.mapEB Tryz.undBool (Tryz.zeroBool _) q m2 _ rfl MQV.out (.agg #[.int .i64 (x : Int), .int .i64 s]) _ rfl HK2.out true HV2.out ?_) | go_in)
             go_ret
             exact ⟨ret_bool (HF3.out.trans (by simp)).symm, hBV⟩
           | true =>
             go_wp2_with (first | (at_lookup; refine wpList_look_intg _ rfl _ _ 209 rfl 3 3 Tryz.lawInt Tryz.mapII Tryz.undInt (Tryz.zeroInt _) p m1 _ rfl MPV.out (.int .i64 f1) _ rfl HK1.out s HV1.out ?_) | (at_lookup; refine wpList_look_boolg _ rfl _ _ 212 rfl 214 4 Tryz.lawEdge Tryz.mapEB Tryz.undBool (Tryz.zeroBool _) q m2 _ rfl MQV.out (.agg #[.int .i64 (x : Int), .int .i64 s]) _ rfl HK2.out true HV2.out ?_) | go_in)
             go_ret
             exact ⟨ret_bool (HF3.out.trans (by simp)).symm, hBV⟩
end Go.Proofs.YtooejoajojanjaaGreatDoor
