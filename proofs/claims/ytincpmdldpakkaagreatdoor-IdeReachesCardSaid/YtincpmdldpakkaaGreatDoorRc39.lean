/- Texts: Ku. -/
import Derived.Test.YtincpmdldpakkaaGreatDoorRc37
import Derived.Test.YtincpmdldpakkaaGreatDoorRc38
import Derived.Test.YtincpmdldpakkaaGreatDoorRc05
namespace Go.Df
open Go.RowKit
namespace If
def anyT (F : Nat) (T : Nat → Nat → Nat → Bool) (n y : Nat) : Bool := (List.range F).any fun a => T n a y
def tabL (F : Nat) (T : Nat → Nat → Nat → Bool) (n d : Nat) : List Int := ofNats ((List.range d).filter fun y => y != 0 && anyT F T n y)
theorem tabL_one (F : Nat) (T : Nat → Nat → Nat → Bool) (n : Nat) : tabL F T n 1 = [] := by simp [tabL, List.range_succ, ofNats]
theorem tabL_no {F : Nat} {T : Nat → Nat → Nat → Bool} {n d : Nat} (h : anyT F T n d = false) : tabL F T n (d + 1) = tabL F T n d := by simp [tabL, List.range_succ, h]
theorem tabL_yes {F : Nat} {T : Nat → Nat → Nat → Bool} {n d : Nat} (hd : 1 ≤ d) (h : anyT F T n d = true) : tabL F T n (d + 1) = tabL F T n d ++ [(d : Int)] := by
 have : (d != 0) = true := by simp; omega
 simp [tabL, List.range_succ, h, ofNats, this]
theorem tabL_len (F : Nat) (T : Nat → Nat → Nat → Bool) (n d : Nat) : (tabL F T n d).length ≤ d := by
 have h := List.length_filter_le (fun y => y != 0 && anyT F T n y) (List.range d)
 simpa [tabL, ofNats] using h
theorem any_succ (f : Nat → Bool) (a : Nat) : (List.range (a + 1)).any f = ((List.range a).any f || f a) := by simp [List.range_succ]
def RwI (base : Nat) (ti : TypeId) (R : Nat → Option Addr × Nat × Nat) (L : Nat → List Int) (n : Nat) (w : World) : Prop :=
 ∀ x, x < n → Ints w (R x).1 (R x).2.1 (L x) ∧ (R x).2.1 ≤ 9223372036854775807 ∧ ∀ a, (R x).1 = some a → base ≤ a.block ∧ Tag w a.block ti
theorem RwI.kept {base : Nat} {ti : TypeId} {R : Nat → Option Addr × Nat × Nat} {L : Nat → List Int} {n : Nat} {X : List Nat} {w w' : World} (h : RwI base ti R L n w) (hk : Kept X w w') (hX : ∀ b, Tag w b ti → base ≤ b → b ∉ X) : RwI base ti R L n w' := fun x hx => by
 obtain ⟨h1, h2, h3⟩ := h x hx
 exact ⟨ints_keptT h1 hk (fun a ha => hX _ (h3 a ha).2 (h3 a ha).1), h2, fun a ha => ⟨(h3 a ha).1, (h3 a ha).2.same (hk.block _ (h3 a ha).2.lt (hX _ (h3 a ha).2 (h3 a ha).1))⟩⟩
def updR (f : Nat → Option Addr × Nat × Nat) (n : Nat) (x : Option Addr × Nat × Nat) : Nat → Option Addr × Nat × Nat := fun i => if i = n then x else f i
theorem RwI.snoc {base : Nat} {ti : TypeId} {R : Nat → Option Addr × Nat × Nat} {L : Nat → List Int} {n : Nat} {w : World} (h : RwI base ti R L n w) {A : Option Addr} {m c : Nat} (hA : Ints w A m (L n)) (hm : m ≤ 9223372036854775807) (ha : ∀ a, A = some a → base ≤ a.block ∧ Tag w a.block ti) : RwI base ti (updR R n (A, m, c)) L (n + 1) w := fun x hx => by
 unfold updR
 by_cases e : x = n
 ·subst e; rw [if_pos rfl]; exact ⟨hA, hm, ha⟩
 ·rw [if_neg e]; exact h x (by omega)
theorem rowsR_snoc (R : Nat → Option Addr × Nat × Nat) (n m c : Nat) (A : Option Addr) : ((List.range n).map fun x => Value.slice (R x).1 (R x).2.1 (R x).2.2) ++ [Value.slice A m c] = (List.range (n + 1)).map fun x => Value.slice (updR R n (A, m, c) x).1 (updR R n (A, m, c) x).2.1 (updR R n (A, m, c) x).2.2 := by
 rw [List.range_succ, List.map_append]
 congr 1
 ·refine List.map_congr_left fun x hx => ?_
  have : x ≠ n := by have := List.mem_range.1 hx; omega
  simp [updR, this]
 ·simp [updR]
theorem mapB_snoc (f : Nat → Bool) (n : Nat) (v : Bool) (h : f n = v) : ((List.range n).map fun x => Value.bool (f x)) ++ [Value.bool v] = (List.range (n + 1)).map fun x => Value.bool (f x) := by
 rw [List.range_succ, List.map_append, ← h]
 rfl
end If
end Go.Df
namespace Go.Proofs.YtincpmdldpakkaaGreatDoor
open Go.RowKit Go.Df Go.Df.If
attribute [local go_sem ↓] Go.wp_at_zero Go.wp_at_succ
set_option maxRecDepth 100000 in
set_option maxHeartbeats 8000000 in
theorem rsolof_any {N F : Nat} {X : List Nat} {bs : Nat → Nat} {r : Nat} {T : Nat → Nat → Nat → Bool} (c : Nat) (w : World) (hT : TabM N F X bs r w T) (hN8 : N ≤ 8192) (hF1 : 0 < F) (hF8 : F ≤ 1024) :
   Calls Tryz.prog 49 #[tabV N F r c] w fun e w' => ∃ A1 c1 A2 c2, e = .returned (.agg #[.slice A1 N c1, .slice A2 N c2]) ∧ (∀ Y XX, Kept XX w' Y → (∀ x ∈ XX, x < w.heap.size) → Bls Y A1 N ((List.range N).map fun x => T x 0 0) ∧ IntsR Y A2 N ((List.range N).map fun x => tabL F T x F)) ∧ Below w.heap.size w w' := by
 obtain ⟨i0, hi, hz0, hz1, hz2⟩ := info_parts booli_info
 obtain ⟨i1, hj, hy0, hy1, hy2⟩ := info_parts inti_info
 obtain ⟨i2, hl, hx0, hx1, hx2⟩ := info_parts rowi_info
 have HT := Lib.hid hT
 have hrl := hT.rl
 clear hT
 go_enter Tryz.func49, Tryz.ntmps49
 go_upto_region 1 with fail
 refine wp_named (fun W => ∃ b0 b1, w.heap.size = b0 ∧ w.heap.size + 1 = b1 ∧ Blk W b0 [.int .i64 (F : Nat), .slice (some ⟨r, 0, none⟩) N c] ∧ Blk W b1 [.slice none 0 0, .slice none 0 0] ∧ Below w.heap.size w W) ⟨_, _, rfl, rfl, ?_, ?_, ?_⟩ ?_
 · exact (Blk.new _ _ _ _ (by first | rfl | simp)).alloc _
 · exact kbn
 · go_grown
 rintro W ⟨b0, b1, e0, e1, B0, B1, hB⟩
 rw [e1, e0]
 have G0 : w.heap.size ≤ b0 := by omega
 have n01 : b0 ≠ b1 := by omega
 have G1 : w.heap.size ≤ b1 := by omega
 have n10 : b1 ≠ b0 := by omega
 clear e0 e1
 have ⟨L0, C0, F0⟩ := B0
 have ⟨L1, C1, F1⟩ := B1
 go_upto_region 3 with fail
 refine wp_named (fun V => ∃ g, W.heap.size = g ∧ Blk V g [.slice none 0 0, .slice none 0 0] ∧ Kept [] W V) ⟨_, rfl, Blk.new _ _ _ _ rfl, (Kept.refl _ _).alloc _⟩ ?_
 rintro V ⟨g, eg, Bg, hkV⟩
 rw [eg]
 have hgV : g < V.heap.size := Bg.1
 have hb0g : b0 ≠ g := by omega
 have hb1g : b1 ≠ g := by omega
 have hgw : w.heap.size ≤ g := by have := hB.size; omega
 have B0V := hkV.blk (by simp) B0
 have B1V := hkV.blk (by simp) B1
 have hwV : Kept [] w V := ((Kept.refl [] w).call hB).next hkV (by simp)
 have HBg := Lib.hid Bg
 have TV := Lib.hid (HT.out.kept0 hwV)
 have hrg : r ≠ g := by omega
 have HXg : Hid (∀ x ∈ X, x ≠ g) := (fun x hx e => by have := HT.out.lt x hx; omega)
 clear C0 F0 C1 F1 eg Bg
 go_wp2_with fail
 go_loopw [4] (fun s4 wr => ∃ (n : Nat) (A : Option Addr) (cA : Nat) (B : Option Addr) (cB : Nat) (R : Nat → Option Addr × Nat × Nat), n ≤ N ∧ s4 = .int .i64 n ∧ Kept [g] V wr ∧ Hid (Blk wr g [.slice A n cA, .slice B n cB]) ∧ Hid (wr.ownsRow V.heap.size 4 1 (.slice A n cA) n ((List.range n).map fun x => Value.bool (T x 0 0))) ∧ Hid (wr.ownsRow V.heap.size 30 1 (.slice B n cB) n ((List.range n).map fun x => Value.slice (R x).1 (R x).2.1 (R x).2.2)) ∧ Hid (RwI V.heap.size 3 R (fun x => tabL F T x F) n wr)) (fun s4 _ => N - (intOf s4).toNat)
 case atStart => exact ⟨0, none, 0, none, 0, fun _ => (none, 0, 0), Nat.zero_le _, rfl, Kept.refl _ _, HBg, Lib.hid (World.ownsRow_nil _ _ _ _), Lib.hid (World.ownsRow_nil _ _ _ _), Lib.hid (fun x h => absurd h (by omega))⟩
 case round =>
 clear HBg
 obtain ⟨n, A, cA, B, cB, R, hn, rfl, hkr, BG, ownA, ownB, RW⟩ := hrel
 have BR0 := hkr.blk (by simpa using hb0g) B0V
 have BR1 := hkr.blk (by simpa using hb1g) B1V
 have ⟨L0r, C0r, F0r⟩ := BR0
 have ⟨LGr, CGr, FGr⟩ := BG.out
 have hsz := hkr.size
 have TR := Lib.hid (TV.out.kept hkr (by simpa using hrg) (fun x hx => by simpa using HXg.out x hx))
 by_cases hlt : n < N
 case neg =>
   obtain rfl : n = N := by omega
   have ⟨L1r, C1r, F1r⟩ := BR1
   have hwr : Kept [] w wr := kept_fresh hwV hkr (by simpa using hgw)
   go_wp2_with fail
   refine retNamedT (fun Y => Blk Y b1 [.slice A n cA, .slice B n cB] ∧ Kept [b1] wr Y) ⟨(BR1.set 0 _).set 1 _, ((Kept.refl [b1] wr).set b1 0 _ (.inl (by simp))).set b1 1 _ (.inl (by simp))⟩ ?_
   rintro Y ⟨BY, hkY⟩
   have ⟨LY, CY, FY⟩ := BY
   have hb1V : b1 < V.heap.size := B1V.1
   refine bodyPost_ret (by simp [results, Tryz.results49, go_sem, CY]; try rfl) rfl ?_
   refine ⟨A, cA, B, cB, rfl, fun Y2 XX hk2 hXX => ?_, (kept_fresh hwr hkY (by simpa using G1)).toBelow⟩
   have hkk : Kept (b1 :: XX) wr Y2 := (keptWide hkY (by simp)).next hk2 (fun y hy => .inl (by simp [hy]))
   have hVX : ∀ x ∈ b1 :: XX, x < V.heap.size := fun x hx => by
     rcases List.mem_cons.1 hx with rfl | hx
     · exact hb1V
     · have := hXX x hx; have := hwV.size; omega
   have RWY := RW.out.kept hkk (fun b _ hb h => by have := hVX b h; omega)
   refine ⟨⟨by simp, fun h0 => ?_⟩, ⟨by simp, fun h0 => ?_⟩⟩
   · obtain ⟨q, cq, hv, hbq, hql, -, -, hcell, -⟩ := own_cellsT ownA.out h0
     injection hv with e1 e2 e3
     refine ⟨q, 0, e1, Nat.lt_of_lt_of_le hql hkk.size, fun x hx => ?_⟩
     rw [Nat.zero_add, hkk.cell q _ hql (fun h => by have := hVX q h; omega), hcell x (by omega)]
     simp [gbl, hx]
   · obtain ⟨q, cq, hv, hbq, hql, -, -, hcell, -⟩ := own_cellsT ownB.out h0
     injection hv with e1 e2 e3
     refine ⟨q, 0, e1, Nat.lt_of_lt_of_le hql hkk.size, fun x hx => ?_⟩
     obtain ⟨h1, h2, -⟩ := RWY x hx
     refine ⟨(R x).1, (R x).2.1, (R x).2.2, ?_, ?_, h2⟩
     · rw [Nat.zero_add, hkk.cell q _ hql (fun h => by have := hVX q h; omega), hcell x (by omega)]
       simp [hx]
     · have e9 : gil ((List.range n).map fun x => tabL F T x F) x = tabL F T x F := by simp [gil, hx]
       rw [e9]
       exact h1
 have hn9 : (n : Int) < (N : Int) := by omega
 obtain ⟨v, hv⟩ : ∃ v, T n 0 0 = v := ⟨_, rfl⟩
 have HV := Lib.hid hv
 have HAB := Lib.hid (mapB_snoc (fun x => T x 0 0) n v hv)
 have HXA : Hid (∀ y ∈ (Value.slice A n cA).ownBlock.toList, V.heap.size ≤ y) := (fun y hy => own_ge ownA.out (by simpa using hy))
 have xg : g ∉ (Value.slice A n cA).ownBlock.toList := fun hm => by have := HXA.out g hm; omega
 have xb0 : b0 ∉ (Value.slice A n cA).ownBlock.toList := fun hm => by have := HXA.out b0 hm; have := B0V.1; omega
 have hgr : g < wr.heap.size := by omega
 have hb0r : b0 < wr.heap.size := L0r
 clear hv
 go_upto_region 5 with fail
 refine wp_region_E 8 (fun w' => SXu (Value.slice A n cA).ownBlock.toList g b0 wr w') (by kernel_rfl) (by (first | (with_reducible assumption) | exact SXu.of (Kept.refl _ _).drew hgr hb0r xg xb0 | exact SXu.of (hHeld.1.call (by assumption)) hgr hb0r xg xb0 | exact SXu.of (hHeld.1.alloc _) hgr hb0r xg xb0 | exact SXu.of HKA.out hgr hb0r xg xb0)) (fun hHeld => ?_)
 refine WE_tk 0 ?_
 refine WE_tk 1 ?_
 refine WE_tk 2 ?_
 refine WE_tk 3 ?_
 refine WE_step 4 rfl (by kernel_rfl) (fun K hK => ?_)
 go_simp
 (go_at_call 95; refine (rtHas_is c 0 n 0 v _ (TR.out.kept0 (Kept.refl [] _).drew) hN8 hF8 hlt hF1 hF1 HV.out).mono ?_; rintro e w5 ⟨rfl, hb5⟩; have hk5 := Lib.hid (((Kept.refl [] wr).drew).call hb5))
 (try go_wp2_with fail)
 refine hK.out _ _ ?_ (fun hHeld => ?_)
 · (first | (with_reducible assumption) | exact SXu.of (Kept.refl _ _).drew hgr hb0r xg xb0 | exact SXu.of (hHeld.1.call (by assumption)) hgr hb0r xg xb0 | exact SXu.of (hHeld.1.alloc _) hgr hb0r xg xb0 | exact SXu.of HKA.out hgr hb0r xg xb0)
 clear hK K
 refine WE_put ?_
 refine WE_step 5 rfl (by kernel_rfl) (fun K hK => ?_)
 go_simp
 refine hK.out _ _ ?_ (fun hHeld => ?_)
 · (first | (with_reducible assumption) | exact SXu.of (Kept.refl _ _).drew hgr hb0r xg xb0 | exact SXu.of (hHeld.1.call (by assumption)) hgr hb0r xg xb0 | exact SXu.of (hHeld.1.alloc _) hgr hb0r xg xb0 | exact SXu.of HKA.out hgr hb0r xg xb0)
 clear hK K
 refine WE_put ?_
 refine WE_step 6 rfl (by kernel_rfl) (fun K hK => ?_)
 (refine step_append_rd _ rfl _ _ 61 rfl V.heap.size 4 i0 (.bool false) 1 1 Tryz.underlying61 hi hz0 hz1 hz2 rfl (by decide) (.slice A n cA) n _ rfl (own_keptT (X := []) ownA.out (hk5.out.alloc _) (by simp)) (some ⟨w5.heap.size, 0, none⟩) 1 1 [.bool v] rfl (Rd.new1 _ _ _ _ rfl) (fun h => by cases h) (by intro u hu; simp at hu; subst hu; rfl) (n + 1) rfl _ HAB.out (by unfold maxLen; omega) (by omega) (by have := hk5.out.size; simp; omega) ?_; intro A9 c9 w4 hown4 hk4 hat4; have hkA : Kept (Value.slice A n cA).ownBlock.toList wr w4 := ((keptWide hk5.out (by simp)).alloc _).next hk4 (fun y hy => Or.inl hy); have ⟨LG4, CG4, FG4⟩ := hkA.blk xg BG.out; have HO4 := Lib.hid hown4; have HKA := Lib.hid hkA; clear hown4 hk4 hat4)
 refine hK.out _ _ ?_ (fun hHeld => ?_)
 · (first | (with_reducible assumption) | exact SXu.of (Kept.refl _ _).drew hgr hb0r xg xb0 | exact SXu.of (hHeld.1.call (by assumption)) hgr hb0r xg xb0 | exact SXu.of (hHeld.1.alloc _) hgr hb0r xg xb0 | exact SXu.of HKA.out hgr hb0r xg xb0)
 clear hK K
 refine WE_put ?_
 refine WE_tk 7 ?_
 refine WE_last rfl (by kernel_rfl) (fun K hK => ?_)
 go_simp
 refine hK.out _ _ ?_
 clear hK K
 have hks : Kept [g] w4 (w4.setCell ⟨g, 0, none⟩ (.slice A9 (n + 1) c9)) := (Kept.refl [g] w4).set g 0 _ (.inl (by simp))
 have hbA : ∀ b t, Tag wr b t → t ≠ 4 → b ∉ (Value.slice A n cA).ownBlock.toList := fun b t hb ht hm => by
   have h1 : (Value.slice A n cA).ownBlock = some b := by simpa using hm
   exact absurd rfl (hb.ne (own_tag ownA.out h1) ht)
 have hkS : Kept (g :: (Value.slice A n cA).ownBlock.toList) wr (w4.setCell ⟨g, 0, none⟩ (.slice A9 (n + 1) c9)) := (keptWide HKA.out (fun x hx => List.mem_cons_of_mem _ hx)).next hks (fun y hy => .inl (by rw [List.mem_singleton] at hy; simp [hy]))
 have tgI : ∀ b, Tag wr b 3 → V.heap.size ≤ b → b ∉ g :: (Value.slice A n cA).ownBlock.toList := fun b hb hb2 hm => by
   rcases List.mem_cons.1 hm with rfl | hm
   · omega
   · exact hbA b _ hb (by decide) hm
 refine act_namedT (fun Z => Kept (g :: (Value.slice A n cA).ownBlock.toList) wr Z ∧ Blk Z g [.slice A9 (n + 1) c9, .slice B n cB] ∧ Z.ownsRow V.heap.size 4 1 (.slice A9 (n + 1) c9) (n + 1) ((List.range (n + 1)).map fun x => Value.bool (T x 0 0)) ∧ Z.ownsRow V.heap.size 30 1 (.slice B n cB) n ((List.range n).map fun x => Value.slice (R x).1 (R x).2.1 (R x).2.2) ∧ RwI V.heap.size 3 R (fun x => tabL F T x F) n Z) ⟨?_, ?_, ?_, ?_, ?_⟩ ?_
 · exact hkS
 · exact ((HKA.out.blk xg BG.out).set 0 _)
 · exact own_keptT (X := [g]) HO4.out hks (fun y hy => by have := own_ge HO4.out hy; simp; omega)
 · exact own_keptT ownB.out hkS (fun y hy hm => by
     rcases List.mem_cons.1 hm with rfl | hm
     · have := own_ge ownB.out hy; omega
     · exact hbA y _ (own_tag ownB.out hy) (by decide) hm)
 · exact RW.out.kept hkS tgI
 rintro Z ⟨hkZ, BGZ, hA9, hBZ, hRZ⟩
 have hkVZ : Kept [g] V Z := hkr.next hkZ (fun y hy => by
   rcases List.mem_cons.1 hy with rfl | hy
   · exact .inl (by simp)
   · exact .inr (HXA.out y hy))
 have B0Z := hkVZ.blk (by simpa using hb0g) B0V
 have ⟨L0Z, C0Z, F0Z⟩ := B0Z
 have TZ := Lib.hid (TV.out.kept hkVZ (by simpa using hrg) (fun x hx => by simpa using HXg.out x hx))
 have OA9 := Lib.hid hA9
 have OBZ := Lib.hid hBZ
 have RZ := Lib.hid hRZ
 have HBGZ := Lib.hid BGZ
 have hszZ := hkVZ.size
 clear C0r F0r CGr FGr LG4 CG4 FG4 hA9 hBZ hRZ hkZ hks hkS hbA tgI HO4 HKA ownA ownB RW BG hHeld BGZ
 go_wp2_with fail
 go_loopw [5, 6] (fun s5 s6 wq => ∃ (d : Nat) (A' : Option Addr) (c' : Nat), 1 ≤ d ∧ d ≤ F ∧ s6 = .int .i64 d ∧ s5 = .slice A' (tabL F T n d).length c' ∧ Kept [] Z wq ∧ Hid (wq.ownsRow Z.heap.size 3 1 (.slice A' (tabL F T n d).length c') (tabL F T n d).length ((tabL F T n d).map (Value.int .i64)))) (fun _ s6 _ => F - (intOf s6).toNat)
 case atStart => exact ⟨1, none, 0, by omega, by omega, rfl, by rw [tabL_one]; rfl, Kept.refl _ _, Lib.hid (by rw [tabL_one]; exact World.ownsRow_nil _ _ _ _)⟩
 case round =>
 rename World => wq
 clear C0Z F0Z
 obtain ⟨d, A', c', hd1, hd, rfl, rfl, hkq, ownq⟩ := hrel
 obtain ⟨k, hk⟩ : ∃ k, (tabL F T n d).length = k := ⟨_, rfl⟩
 rw [hk] at ownq ⊢
 have hkd : k ≤ d := by have := tabL_len F T n d; omega
 have HKL := Lib.hid hk
 have BQ0 := hkq.blk (by simp) B0Z
 have ⟨L0q, C0q, F0q⟩ := BQ0
 have hsq := hkq.size
 have TQ := Lib.hid (TZ.out.kept0 hkq)
 clear hk
 by_cases hltd : d < F
 · have hd9 : (d : Int) < (F : Int) := by omega
   go_wp2_with fail
   go_loopw [7, 8] (fun s7 s8 wz => ∃ (a : Nat) (hb : Bool), a ≤ F ∧ s8 = .int .i64 a ∧ s7 = .bool hb ∧ Kept [] wq wz ∧ Hid ((List.range a).any (fun x => T n x d) = hb)) (fun _ s8 _ => F - (intOf s8).toNat)
   case atStart => exact ⟨0, false, Nat.zero_le _, rfl, rfl, Kept.refl _ _, Lib.hid rfl⟩
   case round =>
   rename World => wz
   clear C0q F0q
   obtain ⟨a, hb, ha, rfl, rfl, hkz, HHB⟩ := hrel
   have ⟨L0z, C0z, F0z⟩ := hkz.blk (by simp) BQ0
   have TZ2 := Lib.hid (TQ.out.kept0 hkz)
   have hkZz : Kept [] Z wz := hkq.next hkz (by simp)
   by_cases hlta : a < F
   · have ha9 : (a : Int) < (F : Int) := by omega
     cases hb with
     | true =>
       have HE : Hid ((List.range (a + 1)).any (fun x => T n x d) = true) := Lib.hid (by rw [any_succ, HHB.out, Bool.true_or])
       go_wp2_with fail
       exact ⟨⟨a + 1, true, by omega, by go_num, rfl, hkz, HE⟩, by simp [intOf]; omega⟩
     | false =>
       obtain ⟨v2, hv2⟩ : ∃ v2, T n a d = v2 := ⟨_, rfl⟩
       have HV2 := Lib.hid hv2
       have HE : Hid ((List.range (a + 1)).any (fun x => T n x d) = v2) := Lib.hid (by rw [any_succ, HHB.out, Bool.false_or, hv2])
       clear hv2
       go_wp2_with (go_at_call 95; refine (rtHas_is c a n d v2 _ TZ2.out hN8 hF8 hlt hlta hltd HV2.out).mono ?_; rintro e w6 ⟨rfl, hb6⟩)
       exact ⟨⟨a + 1, v2, by omega, by go_num, rfl, hkz.call hb6, HE⟩, by simp [intOf]; omega⟩
   · obtain rfl : a = F := by omega
     have OWz := Lib.hid (own_keptT (X := []) ownq.out hkz (by simp))
     have hHX : Hid (∀ y ∈ (Value.slice A' k c').ownBlock.toList, Z.heap.size ≤ y) := (fun y hy => own_ge ownq.out (by simpa using hy))
     cases hb with
     | false =>
       have e9 := tabL_no (d := d) (show anyT a T n d = false from HHB.out)
       have HL : Hid ((tabL a T n (d + 1)).length = k) := Lib.hid (by rw [e9, HKL.out])
       have HO : Hid (wz.ownsRow Z.heap.size 3 1 (.slice A' k c') k ((tabL a T n (d + 1)).map (Value.int .i64))) := Lib.hid (by rw [e9]; exact OWz.out)
       clear e9
       go_wp2_with fail
       exact ⟨⟨d + 1, A', c', by omega, by omega, by go_num, by rw [HL.out], hkZz, Lib.hid (by rw [HL.out]; exact HO.out)⟩, by simp [intOf]; omega⟩
     | true =>
       have e9 := tabL_yes (F := a) (T := T) (n := n) (d := d) hd1 (show anyT a T n d = true from HHB.out)
       have HL : Hid ((tabL a T n (d + 1)).length = k + 1) := Lib.hid (by rw [e9, List.length_append, HKL.out]; rfl)
       have HAP : Hid ((tabL a T n d).map (Value.int .i64) ++ [Value.int .i64 (d : Int)] = (tabL a T n (d + 1)).map (Value.int .i64)) := Lib.hid (by rw [e9, List.map_append]; rfl)
       clear e9
       go_wp2_with (at_builtin; refine wpList_append_rd _ rfl _ _ 30 rfl Z.heap.size 3 i1 (.int .i64 0) 1 8 Tryz.underlying30 hj hy0 hy1 hy2 rfl (by decide) (.slice A' k c') k _ rfl (own_keptT (X := []) OWz.out ((Kept.refl _ _).alloc _) (by simp)) (some ⟨wz.heap.size, 0, none⟩) 1 1 [.int .i64 (d : Int)] rfl (Rd.new1 _ _ _ _ rfl) (fun h => by cases h) (by intro u hu; simp at hu; subst hu; rfl) (k + 1) rfl _ HAP.out (by unfold maxLen; omega) (by omega) (by have := hkZz.size; simp; omega) ?_; intro A8 c8 w8 hown8 hk8 hat8; have hk9 := Lib.hid ((hkZz.alloc (.cells #[.int .i64 (d : Int)] 3)).next hk8 (fun y hy => Or.inr (hHX.out y hy))); have HO8 := Lib.hid hown8; clear hown8 hk8 hat8)
       exact ⟨⟨d + 1, A8, c8, by omega, by omega, by go_num, by rw [HL.out], hk9.out, Lib.hid (by rw [HL.out]; exact HO8.out)⟩, by simp [intOf]; omega⟩
 · obtain rfl : d = F := by omega
   have OBq := Lib.hid (own_keptT (X := []) OBZ.out hkq (by simp))
   have BGq := Lib.hid (hkq.blk (by simp) HBGZ.out)
   have ⟨LGq, CGq, FGq⟩ := BGq.out
   have OAq := Lib.hid (own_keptT (X := []) OA9.out hkq (by simp))
   have RQ := Lib.hid (RZ.out.kept hkq (fun _ _ _ => by simp))
   have HAB2 := Lib.hid (rowsR_snoc R n k c' A')
   have HXB : Hid (∀ y ∈ (Value.slice B n cB).ownBlock.toList, V.heap.size ≤ y) := (fun y hy => own_ge OBZ.out (by simpa using hy))
   have xgB : g ∉ (Value.slice B n cB).ownBlock.toList := fun hm => by have := HXB.out g hm; omega
   have hgq : g < wq.heap.size := by omega
   go_wp2_with (at_builtin; refine wpList_append_rd _ rfl _ _ 49 rfl V.heap.size 30 i2 (.slice none 0 0) 1 24 Tryz.underlying49 hl hx0 hx1 hx2 rfl (by decide) (.slice B n cB) n _ rfl (own_keptT (X := []) OBq.out ((Kept.refl _ _).alloc _) (by simp)) (some ⟨wq.heap.size, 0, none⟩) 1 1 [.slice A' k c'] rfl (Rd.new1 _ _ _ _ rfl) (fun h => by cases h) (by intro u hu; simp at hu; subst hu; rfl) (n + 1) rfl _ HAB2.out (by unfold maxLen; omega) (by omega) (by simp; omega) ?_; intro A8 c8 w8 hown8 hk8 hat8; have hkB : Kept (Value.slice B n cB).ownBlock.toList wq w8 := ((Kept.refl _ wq).alloc _).next hk8 (fun y hy => Or.inl hy); have ⟨LG8, CG8, FG8⟩ := hkB.blk xgB BGq.out; have HO8 := Lib.hid hown8; have HKB := Lib.hid hkB; clear hown8 hk8 hat8)
   have hks : Kept [g] w8 (w8.setCell ⟨g, 1, none⟩ (.slice A8 (n + 1) c8)) := (Kept.refl [g] w8).set g 1 _ (.inl (by simp))
   have hbB : ∀ b t, Tag wq b t → t ≠ 30 → b ∉ (Value.slice B n cB).ownBlock.toList := fun b t hb ht hm => by
     have h1 : (Value.slice B n cB).ownBlock = some b := by simpa using hm
     exact absurd rfl (hb.ne (own_tag OBq.out h1) ht)
   have h5 : ∀ a, A' = some a → V.heap.size ≤ a.block ∧ Tag wq a.block 3 := fun a ha => by
     obtain ⟨h6, h7, -⟩ := own_addr ownq.out ha
     exact ⟨by omega, h7⟩
   obtain ⟨A0, c0, e0, h6, -⟩ := Ints.of_own ownq.out
   injection e0 with e1 e2 e3
   subst e1
   have RS := RQ.out.snoc (c := c') h6 (by omega) h5
   have RS2 := (RS.kept HKB.out (fun b hb _ => hbB b _ hb (by decide))).kept hks (fun b _ hb2 => by simp; omega)
   have OA2 := own_keptT (own_keptT OAq.out HKB.out (fun y hy => hbB y _ (own_tag OAq.out hy) (by decide))) hks (fun y hy => by have := own_ge OA9.out hy; simp; omega)
   have OB2 := own_keptT HO8.out hks (fun y hy => by have := own_ge HO8.out hy; simp; omega)
   exact ⟨⟨n + 1, A9, c9, A8, c8, _, by omega, by go_num, ((hkVZ.next hkq (by simp)).next HKB.out (fun y hy => Or.inr (HXB.out y hy))).next hks (fun y hy => Or.inl hy), Lib.hid ((HKB.out.blk xgB BGq.out).set 1 _), Lib.hid OA2, Lib.hid OB2, Lib.hid RS2⟩, by simp [intOf]; omega⟩
end Go.Proofs.YtincpmdldpakkaaGreatDoor
