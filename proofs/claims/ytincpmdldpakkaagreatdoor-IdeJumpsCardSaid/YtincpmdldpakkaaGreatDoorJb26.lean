/- Texts: Tr Cj Ck. -/
import Derived.Test.YtincpmdldpakkaaGreatDoorJb07
import Derived.Test.YtincpmdldpakkaaGreatDoorJb09
import Derived.Test.YtincpmdldpakkaaGreatDoorJb25
import Derived.Test.YtincpmdldpakkaaGreatDoorJb11
import Derived.Test.YtincpmdldpakkaaGreatDoorJb12
import Derived.Test.YtincpmdldpakkaaGreatDoorJb08
import Derived.Test.YtincpmdldpakkaaGreatDoorJb15
namespace Go.Df
open Go.RowKit
namespace Iv
def JlR (w : World) (A : Option Addr) (n : Nat) (l : List Jp) : Prop :=
 l.length = n ∧ (0 < n → ∃ b o, A = some ⟨b, o, none⟩ ∧ b < w.heap.size ∧ ∀ i, i < n → ∀ q, q < 6 → w.cell? ⟨b, o + i * 6 + q, none⟩ = (jc (l.getD i default))[q]?)
theorem JlR.keptX {X : List Nat} {w w' : World} {A : Option Addr} {n : Nat} {l : List Jp} (h : JlR w A n l) (hk : Kept X w w') (hA : ∀ a, A = some a → a.block ∉ X) : JlR w' A n l :=
 ⟨h.1, fun hn => by
   obtain ⟨b, o, e, hl, hc⟩ := h.2 hn
   exact ⟨b, o, e, Nat.lt_of_lt_of_le hl hk.size, fun i hi q hq => (hk.cell b _ hl (hA _ e)).trans (hc i hi q hq)⟩⟩
theorem JlR.later {w w' : World} {A : Option Addr} {n : Nat} {l : List Jp} (h : JlR w A n l) (hb : Below w.heap.size w w') : JlR w' A n l := h.keptX ((Kept.refl [] _).call hb) (by simp)
theorem JlR.own {w : World} {base : Nat} {e : TypeId} {A : Option Addr} {n c : Nat} {l : List Jp} (h : w.ownsRow base e 6 (.slice A n c) n (l.flatMap jc)) (hl : l.length = n) : JlR w A n l := by
 refine ⟨hl, fun h0 => ?_⟩
 obtain ⟨g, c', hv, hb, hg, hc, -, hcell, -⟩ := own_cellsT h h0
 injection hv with e1 e2 e3
 subst e1
 refine ⟨g, 0, rfl, hg, fun i hi q hq => ?_⟩
 have hi' : i < l.length := by omega
 have e9 : l.getD i default = l[i] := by simp [List.getD, hi']
 rw [e9, Nat.zero_add]
 exact (hcell _ (by omega)).trans (flat_at9 jc 6 (fun _ => rfl) l hi' hq)
theorem jc_snoc (l : List Jp) (j : Jp) : l.flatMap jc ++ jc j = (l ++ [j]).flatMap jc := by simp
theorem j1_no {T : Nat → Nat → Nat → D} {n a d : Nat} (h : (T n a d).1.k = 0) : j1 T n a d = [] := if_pos (kind_top.1 h)
theorem j1_one {T : Nat → Nat → Nat → D} {n a d : Nat} (h : (T n a d).1.k ≠ 0) : j1 T n a d = [jOf n a d (T n a d)] := if_neg (fun e => h (kind_top.2 e))
theorem jpre_len {T : Nat → Nat → Nat → D} {n a d f N : Nat} (hn : n < N) (ha : a < f) (hd : d ≤ f) : (jall T f n).length + (jnode T n f a).length + (jrow T n a d).length ≤ N * (f * f) := by
 have h1 := jall_len (T := T) (f := f) (N := n)
 have h2 := jnode_len (T := T) (n := n) (f := f) (m := a)
 have h3 := jrow_len (T := T) (n := n) (a := a) (f := d)
 have h4 : a * f + f ≤ f * f := by have h9 := Nat.mul_le_mul_right f (show a + 1 ≤ f from ha); rw [Nat.succ_mul] at h9; exact h9
 have h5 : n * (f * f) + f * f ≤ N * (f * f) := by have h9 := Nat.mul_le_mul_right (f * f) (show n + 1 ≤ N from hn); rw [Nat.succ_mul] at h9; exact h9
 omega
end Iv
end Go.Df
namespace Go.Proofs.YtincpmdldpakkaaGreatDoor
open Go.RowKit Go.Df Go.Df.Iv Go.Df.Sp
attribute [local go_sem ↓] Go.wp_at_zero Go.wp_at_succ
theorem jump_info : (Tryz.prog.info? 73).map (fun i => (i.zero, i.size, i.bytes)) = some (some (.agg #[.int .i64 0, .int .i64 0, .int .i64 0, .int .i64 0, .int .i64 0, .int .i64 0]), 6, 48) := by kernel_rfl
theorem Rd.newJ (w : World) (cs : List Value) (t : TypeId) (k b : Nat) (hb : b = w.heap.size) (hk : cs.length = k) : Rd (w.alloc (.cells cs.toArray t)) k (some ⟨b, 0, none⟩) 1 cs := by
 subst hb
 refine ⟨by rw [hk, Nat.one_mul], fun _ => ⟨_, _, rfl, by simp, fun j _ => ?_⟩⟩
 rw [World.cell?_alloc_new, Nat.zero_add]; simp
set_option maxRecDepth 100000 in
set_option maxHeartbeats 20000000 in
theorem rjumps_ok {p : Vb} {K : Kn} (w : World) (mN f : Nat) (hI : Inp p K w) (ho : VOk p) (hfit : VFit p) (hmn : p.mn = (mN : Int)) (hF : p.F = (f : Int)) (hn4 : K.n4 ≤ 1000000) (hbd : K.n1 * (f * f) ≤ 1000000)
   (hchk : ∀ w1, Below w.heap.size w w1 → Calls Tryz.prog 9 #[.agg #[.slice K.A1 K.n1 K.c1, .slice K.A2 K.n2 K.c2, .int .i64 (mN : Nat), .int .i64 (f : Nat), .slice K.A3 K.n3 K.c3, .slice K.A4 K.n4 K.c4]] w1 fun e w' => e = .returned (.int .i64 0) ∧ Below w1.heap.size w1 w') :
   Calls Tryz.prog 22 #[.agg #[.slice K.A1 K.n1 K.c1, .slice K.A2 K.n2 K.c2, .int .i64 (mN : Nat), .int .i64 (f : Nat), .slice K.A3 K.n3 K.c3, .slice K.A4 K.n4 K.c4]] w fun e w' => ∃ T A n c, e = .returned (.tuple #[.slice A n c, .int .i64 0]) ∧ JlR w' A n (jall T f K.n1) ∧ Clo p T ∧ Snd p T ∧ Below w.heap.size w w' := by
 obtain ⟨i0, hi, hz0, hz1, hz2⟩ := info_parts jump_info
 have hN8 : K.n1 ≤ 8192 := by have := (If.sup_parts ho.sup).1; have := hI.nd.1; omega
 have hf8 : f ≤ 1024 := by have := ho.f2; omega
 have HI := Lib.hid hI
 have HO := Lib.hid ho
 have HFI := Lib.hid hfit
 have HMN := Lib.hid hmn
 have HEF := Lib.hid hF
 have HCHK := Lib.hid hchk
 have HBD := Lib.hid hbd
 clear hI ho hfit hmn hF hchk hbd
 go_enter Tryz.func22, Tryz.ntmps22
 go_upto_region 1 with fail
 refine wp_named (fun W => ∃ b0, w.heap.size = b0 ∧ Blk W b0 [.slice K.A1 K.n1 K.c1, .slice K.A2 K.n2 K.c2, .int .i64 (mN : Nat), .int .i64 (f : Nat), .slice K.A3 K.n3 K.c3, .slice K.A4 K.n4 K.c4] ∧ Below w.heap.size w W) ⟨_, rfl, ?_, ?_⟩ ?_
 · exact kbn
 · go_grown
 rintro W ⟨b0, e0, B0, hB⟩
 rw [e0]
 have G0 : w.heap.size ≤ b0 := by omega
 clear e0
 have ⟨L0, C0, F0⟩ := B0
 go_upto_region 2 with (go_at_call 9; refine (HCHK.out _ hB).mono ?_; rintro e w1 ⟨rfl, hb1⟩)
 have hkw1 : Kept [] w w1 := ((Kept.refl _ _).call hB).call hb1
 have HB0 := Lib.hid (B0.later hb1)
 have ⟨L01, C01, F01⟩ := HB0.out
 clear C0 F0
 have HJ : Hid (Calls Tryz.prog 56 #[.agg #[.slice K.A1 K.n1 K.c1, .slice K.A2 K.n2 K.c2, .int .i64 (mN : Nat), .int .i64 (f : Nat), .slice K.A3 K.n3 K.c3, .slice K.A4 K.n4 K.c4]] w1 (GetJ p K mN f w1)) := rjump_any w1 mN f (HI.out.kept9 hkw1) HO.out HFI.out HMN.out HEF.out hn4
 go_upto_region 5 with (go_at_call 56; refine HJ.out.mono ?_; rintro e w2 ⟨go, cN, rw, rc, T, rfl, hT, hc, hs, hb2, -, -⟩)
 refine wp_named (fun V => ∃ g, w2.heap.size = g ∧ Blk V g [.slice K.A1 K.n1 K.c1, .slice K.A2 K.n2 K.c2, .int .i64 (mN : Nat), .int .i64 (f : Nat), .slice K.A3 K.n3 K.c3, .slice K.A4 K.n4 K.c4, .slice (some ⟨go, 0, none⟩) K.n1 cN] ∧ Kept [] w2 V) ⟨_, rfl, Blk.new _ _ _ _ rfl, (Kept.refl _ _).alloc _⟩ ?_
 rintro V ⟨g, eg, Bg, hkV⟩
 rw [eg]
 have hk1V : Kept [] w1 V := ((Kept.refl [] w1).call hb2).next hkV (by simp)
 have HBWV : Hid (Below w.heap.size w V) := Lib.hid (keptTrans hkw1 hk1V).toBelow
 have HB0V := Lib.hid (hk1V.blk (by simp) HB0.out)
 have HBG := Lib.hid Bg
 have TV := Lib.hid (hT.keep hkV)
 have HCLO := Lib.hid hc
 have HSND := Lib.hid hs
 have ⟨L0V, C0V, F0V⟩ := HB0V.out
 have ⟨LGV, CGV, FGV⟩ := Bg
 obtain ⟨base, hbase⟩ : ∃ base, V.heap.size = base := ⟨_, rfl⟩
 have HBASE := Lib.hid hbase
 clear C01 F01 L01 eg hkV Bg hT hc hs hbase
 go_wp2_with fail
 clear C0V F0V L0V CGV FGV LGV
 go_loopw [6, 7] (fun s6 s7 wr => ∃ (n : Nat) (A : Option Addr) (m c : Nat), n ≤ K.n1 ∧ s7 = .int .i64 n ∧ s6 = .slice A m c ∧ Hid ((jall T f n).length = m) ∧ Hid (wr.ownsRow base 73 6 (.slice A m c) m ((jall T f n).flatMap jc)) ∧ Hid (Kept [] V wr)) (fun _ s7 _ => K.n1 - (intOf s7).toNat)
 case atStart => exact ⟨0, none, 0, 0, Nat.zero_le _, rfl, rfl, Lib.hid rfl, Lib.hid (World.ownsRow_nil _ _ _ _), Lib.hid (Kept.refl _ _)⟩
 case round =>
 obtain ⟨n, A, m, c, hn9, rfl, rfl, HM, OWN, HKR⟩ := hrel
 have ⟨L0r, C0r, F0r⟩ := HKR.out.blk (by simp) HB0V.out
 have ⟨LGr, CGr, FGr⟩ := HKR.out.blk (by simp) HBG.out
 by_cases hlt : n < K.n1
 case neg =>
   obtain rfl : n = K.n1 := by omega
   clear hlt
   go_wp2_with fail
   go_ret2
   exact ⟨T, A, m, c, rfl, JlR.own OWN.out HM.out, HCLO.out, HSND.out, HKR.out.below HBWV.out HBWV.out.size (by simp)⟩
 have hn1' : (n : Int) < (K.n1 : Int) := by omega
 go_wp2_with fail
 clear C0r F0r L0r CGr FGr LGr
 go_loopw [6, 8] (fun s6 s8 wr => ∃ (a : Nat) (A : Option Addr) (m c : Nat), a ≤ f ∧ s8 = .int .i64 a ∧ s6 = .slice A m c ∧ Hid ((jall T f n ++ jnode T n f a).length = m) ∧ Hid (wr.ownsRow base 73 6 (.slice A m c) m ((jall T f n ++ jnode T n f a).flatMap jc)) ∧ Hid (Kept [] V wr)) (fun _ s8 _ => f - (intOf s8).toNat)
 case atStart => exact ⟨0, A, m, c, Nat.zero_le _, rfl, rfl, Lib.hid (by rw [show jnode T n f 0 = [] from rfl, List.append_nil]; exact HM.out), Lib.hid (by rw [show jnode T n f 0 = [] from rfl, List.append_nil]; exact OWN.out), HKR⟩
 case round =>
 clear HM OWN HKR
 rename World => wa
 obtain ⟨a, A', m', c', ha9, rfl, rfl, HM, OWN, HKR⟩ := hrel
 have ⟨L0r, C0r, F0r⟩ := HKR.out.blk (by simp) HB0V.out
 by_cases hlta : a < f
 case neg =>
   obtain rfl : a = f := by omega
   clear hlta
   have HS : Hid (jall T a (n + 1) = jall T a n ++ jnode T n a a) := Lib.hid jall_succ
   go_wp2_with fail
   exact ⟨⟨n + 1, A', m', c', by omega, by go_num, rfl, by rw [HS.out]; exact HM, by rw [HS.out]; exact OWN, HKR⟩, by simp [intOf]; omega⟩
 have ha1' : (a : Int) < (f : Int) := by omega
 go_wp2_with fail
 clear C0r F0r L0r
 go_loopw [6, 9] (fun s6 s9 wr => ∃ (d : Nat) (A : Option Addr) (m c : Nat), d ≤ f ∧ s9 = .int .i64 d ∧ s6 = .slice A m c ∧ Hid ((jall T f n ++ jnode T n f a ++ jrow T n a d).length = m) ∧ Hid (wr.ownsRow base 73 6 (.slice A m c) m ((jall T f n ++ jnode T n f a ++ jrow T n a d).flatMap jc)) ∧ Hid (Kept [] V wr)) (fun _ s9 _ => f - (intOf s9).toNat)
 case atStart => exact ⟨0, A', m', c', Nat.zero_le _, rfl, rfl, Lib.hid (by rw [show jrow T n a 0 = [] from rfl, List.append_nil]; exact HM.out), Lib.hid (by rw [show jrow T n a 0 = [] from rfl, List.append_nil]; exact OWN.out), HKR⟩
 case round =>
 clear HM OWN HKR
 rename World => wd
 obtain ⟨d, A6, m6, c6, hd9, rfl, rfl, HM, OWN, HKR⟩ := hrel
 have ⟨L0r, C0r, F0r⟩ := HKR.out.blk (by simp) HB0V.out
 have ⟨LGr, CGr, FGr⟩ := HKR.out.blk (by simp) HBG.out
 by_cases hltd : d < f
 case neg =>
   obtain rfl : d = f := by omega
   clear hltd
   have HS : Hid (jall T d n ++ jnode T n d (a + 1) = jall T d n ++ jnode T n d a ++ jrow T n a d) := Lib.hid (by rw [jnode_succ, List.append_assoc])
   go_wp2_with fail
   exact ⟨⟨a + 1, A6, m6, c6, by omega, by go_num, rfl, by rw [HS.out]; exact HM, by rw [HS.out]; exact OWN, HKR⟩, by simp [intOf]; omega⟩
 have hd1' : (d : Int) < (f : Int) := by omega
 obtain ⟨y0, y1, y2, hy⟩ : ∃ y0 y1 y2, (T n a d).1 = ⟨y0, y1, y2⟩ := ⟨_, _, _, rfl⟩
 have HY := Lib.hid hy
 have hm6 : m6 + 1 ≤ 1000001 := by
   have h1 := jpre_len (T := T) (d := d) hlt hlta hd9
   have h2 := HM.out
   have h3 := HBD.out
   simp only [List.length_append] at h2
   omega
 have HS : Hid (jall T f n ++ jnode T n f a ++ jrow T n a (d + 1) = jall T f n ++ jnode T n f a ++ jrow T n a d ++ j1 T n a d) := Lib.hid (by rw [jrow_succ, List.append_assoc, List.append_assoc, List.append_assoc])
 have TD := Lib.hid (TV.out.keep HKR.out)
 clear hy
 go_upto_region 16 with (go_at_call 57; refine (rat_any _ a n d TD.out hlt hlta hltd hf8 HY.out).mono ?_; rintro e w4 ⟨rfl, hb4⟩)
 refine wp_named (fun X => ∃ g9, w4.heap.size = g9 ∧ Blk X g9 [.int .i64 y0, .int .i64 y1, .int .i64 y2] ∧ Kept [] w4 X) ⟨_, rfl, Blk.new _ _ _ _ rfl, (Kept.refl _ _).alloc _⟩ ?_
 rintro X ⟨g9, eg9, B9, hkX⟩
 rw [eg9]
 have hkdX : Kept [] wd X := ((Kept.refl [] wd).call hb4).next hkX (by simp)
 have HKX : Hid (Kept [] V X) := Lib.hid (keptTrans HKR.out hkdX)
 have OWX := Lib.hid (own_keptT (X := []) OWN.out hkdX (by simp))
 have ⟨L9, C9, F9⟩ := B9
 have hzX : base ≤ X.heap.size := by have := HKX.out.size; have := HBASE.out; omega
 clear eg9 hkX hkdX C0r F0r L0r CGr FGr LGr
 by_cases hz : y0 = 0
 · subst hz
   have HS2 : Hid (jall T f n ++ jnode T n f a ++ jrow T n a (d + 1) = jall T f n ++ jnode T n f a ++ jrow T n a d) := Lib.hid (by rw [HS.out, j1_no (by rw [HY.out]), List.append_nil])
   go_wp2_with fail
   exact ⟨⟨d + 1, A6, m6, c6, by omega, by go_num, rfl, by rw [HS2.out]; exact HM, by rw [HS2.out]; exact OWX, HKX⟩, by simp [intOf]; omega⟩
 · have dz : (y0 != 0) = true := by simpa using hz
   have HS2 : Hid (jall T f n ++ jnode T n f a ++ jrow T n a (d + 1) = jall T f n ++ jnode T n f a ++ jrow T n a d ++ [⟨n, a, d, y0, y1, y2⟩]) := Lib.hid (by
     rw [HS.out, j1_one (by rw [HY.out]; exact hz)]
     unfold jOf
     rw [HY.out])
   have HAP : Hid ((jall T f n ++ jnode T n f a ++ jrow T n a d).flatMap jc ++ [.int .i64 (n : Int), .int .i64 (a : Int), .int .i64 (d : Int), .int .i64 y0, .int .i64 y1, .int .i64 y2] = (jall T f n ++ jnode T n f a ++ jrow T n a (d + 1)).flatMap jc) := Lib.hid (by rw [HS2.out]; exact jc_snoc _ ⟨n, a, d, y0, y1, y2⟩)
   go_wp2_with (at_builtin; refine wpList_append_rd _ rfl _ _ 67 rfl base 73 i0 (.agg #[.int .i64 0, .int .i64 0, .int .i64 0, .int .i64 0, .int .i64 0, .int .i64 0]) 6 48 Tryz.underlying67 hi hz0 hz1 hz2 rfl (by decide) (.slice A6 m6 c6) m6 _ rfl (own_keptT (X := []) OWX.out ((Kept.refl _ _).alloc _) (by simp)) (some ⟨X.heap.size, 0, none⟩) 1 1 [.int .i64 (n : Int), .int .i64 (a : Int), .int .i64 (d : Int), .int .i64 y0, .int .i64 y1, .int .i64 y2] rfl (Rd.newJ _ _ _ _ _ rfl rfl) (fun h => by cases h) (by intro u hu; simp at hu; rcases hu with rfl | rfl | rfl | rfl | rfl | rfl <;> rfl) (m6 + 1) rfl _ HAP.out (by unfold maxLen; omega) (by omega) (by simp; omega) ?_; intro A8 c8 w8 hown8 hk8 hat8; have HO8 := Lib.hid hown8; have HK8 := Lib.hid ((HKX.out.alloc (.cells #[.int .i64 (n : Int), .int .i64 (a : Int), .int .i64 (d : Int), .int .i64 y0, .int .i64 y1, .int .i64 y2] 73)).next hk8 (fun y hy => Or.inr (by have := own_ge OWX.out (by simpa using hy); have := HBASE.out; omega))); clear hown8 hk8 hat8)
   exact ⟨⟨d + 1, A8, m6 + 1, c8, by omega, by go_num, rfl, by rw [HS2.out]; exact Lib.hid (by rw [List.length_append, HM.out]; rfl), HO8, HK8⟩, by simp [intOf]; omega⟩
end Go.Proofs.YtincpmdldpakkaaGreatDoor
namespace Go.Df
open Go.RowKit
structure ObjT (w : World) (t : Nat → Nat) (g : Nat) (o : Obj) (m : Nat) : Prop where
 heap : w.heap[g]? = some o
 tag : t g = m
theorem ObjT.lt {w : World} {t : Nat → Nat} {g m : Nat} {o : Obj} (h : ObjT w t g o m) : g < w.heap.size := (Array.getElem?_eq_some_iff.1 h.heap).1
theorem ObjT.grow {w w' : World} {t t' : Nat → Nat} {g m : Nat} {o : Obj} (h : ObjT w t g o m) (hg : Grow w t w' t') : ObjT w' t' g o m := ⟨(hg.1.block g h.lt (by simp)).trans h.heap, (hg.2 g h.lt).trans h.tag⟩
theorem ObjT.ne {w : World} {t : Nat → Nat} {g g' m m' : Nat} {o o' : Obj} (h : ObjT w t g o m) (h' : ObjT w t g' o' m') (hm : m ≠ m') : g ≠ g' := fun e => hm (by rw [← h.tag, ← h'.tag, e])
theorem ObjT.new (w : World) (t : Nat → Nat) (o : Obj) (m : Nat) : ObjT (w.alloc o) (Go.Df.mark t w.heap.size m) w.heap.size o m := ⟨heap_alloc_new w o, mark_same _ _ _⟩
theorem ObjT.at {w : World} {t : Nat → Nat} {g m : Nat} {o : Obj} (h : w.heap[g]? = some o) : ObjT w (Go.Df.mark t g m) g o m := ⟨h, mark_same _ _ _⟩
end Go.Df
namespace Go.Proofs.YtincpmdldpakkaaGreatDoor
open Go.RowKit Go.Df
attribute [local go_sem ↓] Go.wp_at_zero Go.wp_at_succ
theorem newX_info : (Tryz.prog.info? 84).map (fun i => (i.zero, i.size, i.bytes)) = some (some (.map none), 1, 8) := by kernel_rfl
set_option maxRecDepth 100000 in
set_option maxHeartbeats 4000000 in
theorem newX_any (n : Nat) (w : World) (hn : n ≤ 1000000) (M : Array Value) (hM : (List.replicate n (Value.map none)).toArray = M) :
   Calls Tryz.prog 129 #[.int .i64 n] w fun e w' => ∃ g, e = .returned (.agg #[.slice (some ⟨g, 0, none⟩) n n]) ∧ w'.heap[g]? = some (.cells M 84 (0, 0)) ∧ w.heap.size ≤ g ∧ Below w.heap.size w w' := by
 obtain ⟨i0, hi, hz0, hz1, hz2⟩ := info_parts newX_info
 have hmk := fun w => run_make1 (P := Tryz.prog) Tryz.underlying85 hi hz0 hz1 hz2 rfl n (by omega) (by omega) M hM w
 have HM := Lib.hid hM
 clear hM
 go_enter Tryz.func129, Tryz.ntmps129
 go_wp2
 go_returns
 refine ⟨w.heap.size + 1, rfl, ?_, by omega, (((Kept.refl [] w).alloc _).alloc _).toBelow⟩
 have h1 := heap_alloc_new (w.alloc (.cells #[.slice (some ⟨w.heap.size + 1, 0, none⟩) n n] 87)) (.cells M 84)
 simpa using h1
theorem newL_info : (Tryz.prog.info? 233).map (fun i => (i.zero, i.size, i.bytes)) = some (some (.map none), 1, 8) := by kernel_rfl
set_option maxRecDepth 100000 in
set_option maxHeartbeats 4000000 in
theorem newL_any (n : Nat) (w : World) (hn : n ≤ 1000000) (M : Array Value) (hM : (List.replicate n (Value.map none)).toArray = M) :
   Calls Tryz.prog 130 #[.int .i64 n] w fun e w' => ∃ g, e = .returned (.agg #[.slice (some ⟨g, 0, none⟩) n n]) ∧ w'.heap[g]? = some (.cells M 233 (0, 0)) ∧ w.heap.size ≤ g ∧ Below w.heap.size w w' := by
 obtain ⟨i0, hi, hz0, hz1, hz2⟩ := info_parts newL_info
 have hmk := fun w => run_make1 (P := Tryz.prog) Tryz.underlying89 hi hz0 hz1 hz2 rfl n (by omega) (by omega) M hM w
 have HM := Lib.hid hM
 clear hM
 go_enter Tryz.func130, Tryz.ntmps130
 go_wp2
 go_returns
 refine ⟨w.heap.size + 1, rfl, ?_, by omega, (((Kept.refl [] w).alloc _).alloc _).toBelow⟩
 have h1 := heap_alloc_new (w.alloc (.cells #[.slice (some ⟨w.heap.size + 1, 0, none⟩) n n] 91)) (.cells M 233)
 simpa using h1
theorem newV_info : (Tryz.prog.info? 179).map (fun i => (i.zero, i.size, i.bytes)) = some (some (.map none), 1, 8) := by kernel_rfl
set_option maxRecDepth 100000 in
set_option maxHeartbeats 4000000 in
theorem newV_any (n : Nat) (w : World) (hn : n ≤ 1000000) (M : Array Value) (hM : (List.replicate n (Value.map none)).toArray = M) :
   Calls Tryz.prog 131 #[.int .i64 n] w fun e w' => ∃ g, e = .returned (.agg #[.slice (some ⟨g, 0, none⟩) n n]) ∧ w'.heap[g]? = some (.cells M 179 (0, 0)) ∧ w.heap.size ≤ g ∧ Below w.heap.size w w' := by
 obtain ⟨i0, hi, hz0, hz1, hz2⟩ := info_parts newV_info
 have hmk := fun w => run_make1 (P := Tryz.prog) Tryz.underlying92 hi hz0 hz1 hz2 rfl n (by omega) (by omega) M hM w
 have HM := Lib.hid hM
 clear hM
 go_enter Tryz.func131, Tryz.ntmps131
 go_wp2
 go_returns
 refine ⟨w.heap.size + 1, rfl, ?_, by omega, (((Kept.refl [] w).alloc _).alloc _).toBelow⟩
 have h1 := heap_alloc_new (w.alloc (.cells #[.slice (some ⟨w.heap.size + 1, 0, none⟩) n n] 94)) (.cells M 179)
 simpa using h1
end Go.Proofs.YtincpmdldpakkaaGreatDoor
namespace Go.Df
open Go.RowKit
def IntA (w : World) (g n : Nat) (f : Nat → Nat) : Prop := g < w.heap.size ∧ (∀ x, x < n → w.cell? ⟨g, x, none⟩ = some (.int .i64 (f x : Nat))) ∧ ∀ x, w.frozen? ⟨g, x, none⟩ = false
theorem IntA.kept {X : List Nat} {w w' : World} {g n : Nat} {f : Nat → Nat} (h : IntA w g n f) (hk : Kept X w w') (hX : g ∉ X) : IntA w' g n f :=
 ⟨Nat.lt_of_lt_of_le h.1 hk.size, fun x hx => (hk.cell g x h.1 hX).trans (h.2.1 x hx), fun x => (hk.frozen g x h.1 hX).trans (h.2.2 x)⟩
theorem IntA.set {w : World} {g n : Nat} {f : Nat → Nat} (h : IntA w g n f) (i y : Nat) {f' : Nat → Nat} (hf : ∀ x, x < n → f' x = if x = i then y else f x) : IntA (w.setCell ⟨g, i, none⟩ (.int .i64 (y : Nat))) g n f' := by
 refine ⟨by simpa [World.setCell] using h.1, fun x hx => ?_, fun x => by simpa using h.2.2 x⟩
 rw [hf x hx]
 by_cases e : x = i
 · subst e; rw [if_pos rfl]; exact set_same (h.2.1 x hx)
 · rw [if_neg e, set_other (.inr (fun h => e h.symm))]; exact h.2.1 x hx
open Classical in
noncomputable def upd2 {α : Type} (f : Nat → Nat → α) (t i : Nat) (x : α) : Nat → Nat → α := fun t' i' => if t' = t ∧ i' = i then x else f t' i'
theorem upd2_at {α : Type} (f : Nat → Nat → α) (t i : Nat) (x : α) : upd2 f t i x t i = x := by simp [upd2]
theorem upd2_ne {α : Type} {f : Nat → Nat → α} {t i t' i' : Nat} {x : α} (h : ¬ (t' = t ∧ i' = i)) : upd2 f t i x t' i' = f t' i' := by simp [upd2, h]
def rsel5 (a b c d e : Nat) (t : Nat) : Nat := match t with
 | 0 => a
 | 1 => b
 | 2 => c
 | 3 => d
 | _ => e
section
structure Rg (e : Nat → TypeId) (sz : Nat → Nat) (lim : Nat) (w : World) (r : Nat → Nat) (N : Nat) (v : Nat → Nat → Value) (n : Nat → Nat → Nat) (l : Nat → Nat → List Value) : Prop where
 cell : ∀ t i, t < 5 → i < N → w.cell? ⟨r t, i, none⟩ = some (v t i)
 fr : ∀ t i, t < 5 → w.frozen? ⟨r t, i, none⟩ = false
 rlt : ∀ t, t < 5 → r t < lim
 hlim : lim ≤ w.heap.size
 rr : ∀ t t', t < 5 → t' < 5 → r t = r t' → t = t'
 own : ∀ t i, t < 5 → i < N → w.ownsRow lim (e t) (sz t) (v t i) (n t i) (l t i)
 vv : ∀ t i t' i' x, t < 5 → t' < 5 → i < N → i' < N → (v t i).ownBlock = some x → (v t' i').ownBlock = some x → t = t' ∧ i = i'
variable {e : Nat → TypeId} {sz : Nat → Nat} {lim : Nat} {w w1 : World} {r : Nat → Nat} {N : Nat} {v : Nat → Nat → Value} {n : Nat → Nat → Nat} {l : Nat → Nat → List Value}
theorem Rg.kept {X : List Nat} (h : Rg e sz lim w r N v n l) (hk : Kept X w w1) (hX : ∀ x ∈ X, x < lim ∧ ∀ t, t < 5 → x ≠ r t) : Rg e sz lim w1 r N v n l := by
 have hr : ∀ t, t < 5 → r t ∉ X := fun t ht hm => (hX _ hm).2 t ht rfl
 have hrl : ∀ t, t < 5 → r t < w.heap.size := fun t ht => Nat.lt_of_lt_of_le (h.rlt t ht) h.hlim
 exact ⟨fun t i ht hi => (hk.cell (r t) i (hrl t ht) (hr t ht)).trans (h.cell t i ht hi), fun t i ht => (hk.frozen (r t) i (hrl t ht) (hr t ht)).trans (h.fr t i ht), h.rlt, Nat.le_trans h.hlim hk.size, h.rr,
   fun t i ht hi => own_kept2 (h.own t i ht hi) hk (fun g hg hm => by have h1 := own_ge (h.own t i ht hi) hg; have h2 := (hX g hm).1; omega), h.vv⟩
theorem Rg.snoc {t i : Nat} {v' : Value} {n' : Nat} {l' : List Value} (h : Rg e sz lim w r N v n l) (ht : t < 5) (hi : i < N) (hk : Kept (v t i).ownBlock.toList w w1) (hv : w1.ownsRow lim (e t) (sz t) v' n' l')
   (hg : ∀ g, v'.ownBlock = some g → (v t i).ownBlock = some g ∨ w.heap.size ≤ g) : Rg e sz lim (w1.setCell ⟨r t, i, none⟩ v') r N (upd2 v t i v') (upd2 n t i n') (upd2 l t i l') := by
 have hrl : ∀ t, t < 5 → r t < w.heap.size := fun t ht => Nat.lt_of_lt_of_le (h.rlt t ht) h.hlim
 have hvr : ∀ t' i' g, t' < 5 → i' < N → (v t' i').ownBlock = some g → ∀ t'', t'' < 5 → g ≠ r t'' := fun t' i' g ht' hi' hg' t'' ht'' e => by
   have h1 := own_ge (h.own t' i' ht' hi') hg'
   have h2 := h.rlt t'' ht''
   omega
 have hrn : ∀ t', t' < 5 → r t' ∉ (v t i).ownBlock.toList := fun t' ht' hm => hvr t i _ ht hi (by simpa using hm) t' ht' rfl
 have hk2 : Kept (r t :: (v t i).ownBlock.toList) w (w1.setCell ⟨r t, i, none⟩ v') := (keptWide hk (fun x hx => List.mem_cons_of_mem _ hx)).set (r t) i v' (.inl (by simp))
 have hv'r : ∀ g, v'.ownBlock = some g → g ≠ r t := fun g hg' => by
   rcases hg g hg' with h1 | h1
   · exact hvr t i g ht hi h1 t ht
   · have := hrl t ht; omega
 refine ⟨fun t' i' ht' hi' => ?_, fun t' i' ht' => ?_, h.rlt, Nat.le_trans h.hlim (by simpa [World.setCell] using hk.size), h.rr, fun t' i' ht' hi' => ?_, fun t1 i1 t2 i2 x h1 h2 h3 h4 h5 h6 => ?_⟩
 · have hc := (hk.cell (r t') i' (hrl t' ht') (hrn t' ht')).trans (h.cell t' i' ht' hi')
   by_cases e1 : t' = t ∧ i' = i
   · obtain ⟨rfl, rfl⟩ := e1
     rw [upd2_at]
     exact set_same hc
   · rw [upd2_ne e1, set_other]
     · exact hc
     · by_cases e2 : t' = t
       · right; intro e3; exact e1 ⟨e2, e3.symm⟩
       · left; intro e3; exact e2 (h.rr t' t ht' ht e3.symm)
 · have := (hk.frozen (r t') i' (hrl t' ht') (hrn t' ht')).trans (h.fr t' i' ht')
   simpa using this
 · by_cases e1 : t' = t ∧ i' = i
   · obtain ⟨rfl, rfl⟩ := e1
     rw [upd2_at, upd2_at, upd2_at]
     exact own_kept2 hv ((Kept.refl [r t'] w1).set (r t') i' v' (.inl (by simp))) (fun g hg' => by simpa using hv'r g hg')
   · rw [upd2_ne e1, upd2_ne e1, upd2_ne e1]
     refine own_kept2 (h.own t' i' ht' hi') hk2 (fun g hg' hm => ?_)
     rcases List.mem_cons.1 hm with h1 | h1
     · exact hvr t' i' g ht' hi' hg' t ht h1
     · exact e1 (h.vv t' i' t i g ht' ht hi' hi hg' (by simpa using h1))
 · by_cases e1 : t1 = t ∧ i1 = i
   · obtain ⟨rfl, rfl⟩ := e1
     rw [upd2_at] at h5
     by_cases e2 : t2 = t1 ∧ i2 = i1
     · exact ⟨e2.1.symm, e2.2.symm⟩
     · rw [upd2_ne e2] at h6
       rcases hg x h5 with h7 | h7
       · exact h.vv t1 i1 t2 i2 x h1 h2 h3 h4 h7 h6
       · have := own_lt2 (h.own t2 i2 h2 h4) h6; omega
   · rw [upd2_ne e1] at h5
     by_cases e2 : t2 = t ∧ i2 = i
     · obtain ⟨rfl, rfl⟩ := e2
       rw [upd2_at] at h6
       rcases hg x h6 with h7 | h7
       · exact h.vv t1 i1 t2 i2 x h1 h2 h3 h4 h5 h7
       · have := own_lt2 (h.own t1 i1 h1 h3) h5; omega
     · rw [upd2_ne e2] at h6
       exact h.vv t1 i1 t2 i2 x h1 h2 h3 h4 h5 h6
end
theorem blk_of_obj {w : World} {g : Nat} {C : List Value} {t : TypeId} (h : w.heap[g]? = some (.cells C.toArray t (0, 0))) : Blk w g C :=
 ⟨(Array.getElem?_eq_some_iff.1 h).1, fun i => by simp [World.cell?, h], fun i => by simp [World.frozen?, h]⟩
namespace Iv
open Sp
def prE (p : Vb) (t i k : Nat) : Bool :=
 match t with
 | 0 => (ge p.es k).a == (i : Int)
 | 1 => (ge p.es k).k == 2 && (ge p.es k).b == (i : Int)
 | 2 => (ge p.es k).k == 2 && If.stOf p.ns (ge p.es k).a.toNat == i
 | 3 => ((ge p.es k).k == 3 || (ge p.es k).k == 4) && (ge p.es k).c == (i : Int)
 | _ => false
def LE (p : Vb) (k t i : Nat) : List Nat := (List.range k).filter (prE p t i)
def SE (p : Vb) (j i : Nat) : List Vs := (p.sd.take j).filter fun s => s.n == (i : Int)
theorem LE_one (p : Vb) (k t i : Nat) : LE p (k + 1) t i = if prE p t i k = true then LE p k t i ++ [k] else LE p k t i := filter_one k
theorem upd2_app {L : Nat → Nat → List Nat} {t i t' i' k : Nat} : upd2 L t i (L t i ++ [k]) t' i' = if t' = t ∧ i' = i then L t' i' ++ [k] else L t' i' := by
 by_cases e : t' = t ∧ i' = i
 · rw [if_pos e]; obtain ⟨rfl, rfl⟩ := e; rw [upd2_at]
 · rw [if_neg e, upd2_ne e]
theorem beq_int (x i : Nat) : ((x : Int) == (i : Int)) = decide (i = x) := by
 by_cases e : i = x
 · subst e; simp
 · have : ¬ ((x : Int) = (i : Int)) := by omega
   simp [e, this]
theorem beq_nat (x i : Nat) : (x == i) = decide (i = x) := by
 by_cases e : i = x
 · subst e; simp
 · have : ¬ (x = i) := fun h => e h.symm
   simp [e, this]
theorem LE_call {p : Vb} {k ea eb st : Nat} (h2 : (ge p.es k).k = 2) (ha : (ge p.es k).a = (ea : Int)) (hb : (ge p.es k).b = (eb : Int)) (hs : If.stOf p.ns ea = st) {L1 L2 L3 : Nat → Nat → List Nat} (e1 : L1 = upd2 (LE p k) 0 ea (LE p k 0 ea ++ [k])) (e2 : L2 = upd2 L1 1 eb (L1 1 eb ++ [k])) (e3 : L3 = upd2 L2 2 st (L2 2 st ++ [k])) : LE p (k + 1) = L3 := by
 funext t i
 rw [LE_one, e3, upd2_app, e2, upd2_app, e1, upd2_app]
 match t with
 | 0 => simp [prE, ha, beq_int]
 | 1 => simp [prE, h2, hb, beq_int]
 | 2 => simp [prE, h2, ha, hs, beq_nat]
 | 3 => simp [prE, h2]
 | _ + 4 => simp [prE]
theorem LE_ret {p : Vb} {k ea ec : Nat} (h2 : (ge p.es k).k = 3 ∨ (ge p.es k).k = 4) (ha : (ge p.es k).a = (ea : Int)) (hc : (ge p.es k).c = (ec : Int)) {L1 L2 : Nat → Nat → List Nat} (e1 : L1 = upd2 (LE p k) 0 ea (LE p k 0 ea ++ [k])) (e2 : L2 = upd2 L1 3 ec (L1 3 ec ++ [k])) : LE p (k + 1) = L2 := by
 have h3 : (ge p.es k).k ≠ 2 := by omega
 funext t i
 rw [LE_one, e2, upd2_app, e1, upd2_app]
 match t with
 | 0 => simp [prE, ha, beq_int]
 | 1 => simp [prE, h3]
 | 2 => simp [prE, h3]
 | 3 => simp [prE, h2, hc, beq_int]
 | _ + 4 => simp [prE]
theorem LE_else {p : Vb} {k ea : Nat} (h2 : (ge p.es k).k ≠ 2) (h3 : (ge p.es k).k ≠ 3) (h4 : (ge p.es k).k ≠ 4) (ha : (ge p.es k).a = (ea : Int)) {L1 : Nat → Nat → List Nat} (e1 : L1 = upd2 (LE p k) 0 ea (LE p k 0 ea ++ [k])) : LE p (k + 1) = L1 := by
 funext t i
 rw [LE_one, e1, upd2_app]
 match t with
 | 0 => simp [prE, ha, beq_int]
 | 1 => simp [prE, h2]
 | 2 => simp [prE, h2]
 | 3 => simp [prE, h3, h4]
 | _ + 4 => simp [prE]
theorem LE_len (p : Vb) (k t i : Nat) : (LE p k t i).length ≤ k := by
 have h := List.length_filter_le (prE p t i) (List.range k)
 rw [List.length_range] at h
 exact h
def vcells (l : List Vs) : List Value := l.flatMap fun u => [.int .i64 u.n, .int .i64 u.f, .int .i64 u.k, .int .i64 u.v]
theorem vcells_snoc (l : List Vs) (u : Vs) : vcells (l ++ [u]) = vcells l ++ [.int .i64 u.n, .int .i64 u.f, .int .i64 u.k, .int .i64 u.v] := by simp [vcells]
def NKf (L : Nat → Nat → List Nat) (S : Nat → List Vs) (t i : Nat) : Nat := if t = 4 then (S i).length else (L t i).length
def CKf (L : Nat → Nat → List Nat) (S : Nat → List Vs) (t i : Nat) : List Value := if t = 4 then vcells (S i) else (ofNats (L t i)).map (Value.int .i64)
theorem NK_up {L : Nat → Nat → List Nat} {S : Nat → List Vs} {t i k : Nat} (ht : t < 4) : NKf (upd2 L t i (L t i ++ [k])) S = upd2 (NKf L S) t i ((L t i).length + 1) := by
 funext t' i'
 by_cases e : t' = t ∧ i' = i
 · obtain ⟨rfl, rfl⟩ := e
   rw [upd2_at]
   unfold NKf
   rw [if_neg (by omega), upd2_at, List.length_append]
   rfl
 · rw [upd2_ne e]
   unfold NKf
   rw [upd2_ne e]
theorem CK_up {L : Nat → Nat → List Nat} {S : Nat → List Vs} {t i k : Nat} (ht : t < 4) : CKf (upd2 L t i (L t i ++ [k])) S = upd2 (CKf L S) t i (CKf L S t i ++ [.int .i64 (k : Nat)]) := by
 funext t' i'
 by_cases e : t' = t ∧ i' = i
 · obtain ⟨rfl, rfl⟩ := e
   rw [upd2_at]
   unfold CKf
   rw [if_neg (by omega), if_neg (by omega), upd2_at, ofNats_snoc, List.map_append]
   rfl
 · rw [upd2_ne e]
   unfold CKf
   rw [upd2_ne e]
end Iv
end Go.Df
