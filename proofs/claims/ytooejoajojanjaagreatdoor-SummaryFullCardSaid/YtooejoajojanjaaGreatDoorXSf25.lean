/- Texts: Vw. -/
import Derived.Test.YtooejoajojanjaaGreatDoorXSf23
import Derived.Test.YtooejoajojanjaaGreatDoorXSf24
import Derived.Test.YtooejoajojanjaaGreatDoorXSf12
namespace Go.Df
open Go.RowKit
namespace If
open Sp
theorem putTx (T : Nat → Nat → Nat → Bool) (n a d n' a' d' : Nat) : (putT (T, false) n a d).1 n' a' d' = (T n' a' d' || (n' == n && (a' == a && d' == d))) := by
 unfold putT
 split
 · rename_i h
   by_cases e : n' = n ∧ a' = a ∧ d' = d
   · obtain ⟨rfl, rfl, rfl⟩ := e
     dsimp only at h ⊢
     rw [h]
     rfl
   · have : (n' == n && (a' == a && d' == d)) = false := by
       rw [Bool.eq_false_iff]
       intro h9
       simp at h9
       exact e h9
     rw [this, Bool.or_false]
 · rfl
def SumAt (base : Nat) (tp : TypeId) (w : World) (g : Nat) (f : Int) (l3 l4 : List Pr) (E T : Option Addr) (ne ce nt ct : Nat) : Prop :=
 Blk w g [.int .i64 f, .slice E ne ce, .slice T nt ct] ∧ Prs w E ne l3 ∧ Prs w T nt l4 ∧ (∀ a, E = some a → base ≤ a.block ∧ Tag w a.block tp) ∧ ∀ a, T = some a → base ≤ a.block ∧ Tag w a.block tp
theorem SumAt.of {base base' g : Nat} {tp : TypeId} {w w' : World} {f : Int} {l3 l4 : List Pr} {E T : Option Addr} {ne ce nt ct : Nat} {X : List Nat} (hbb : base ≤ base') (hB : Blk w' g [.int .i64 f, .slice E ne ce, .slice T nt ct]) (h3 : Prs w E ne l3) (h4 : Prs w T nt l4) (f3 : ∀ a, E = some a → base' ≤ a.block ∧ Tag w a.block tp) (f4 : ∀ a, T = some a → base' ≤ a.block ∧ Tag w a.block tp) (hk : Kept X w w') (hX : ∀ x ∈ X, x < base') : SumAt base tp w' g f l3 l4 E T ne ce nt ct := by
 have hE : ∀ a, E = some a → a.block ∉ X := fun a ha hm => by have h1 := hX _ hm; have h2 := (f3 a ha).1; omega
 have hT : ∀ a, T = some a → a.block ∉ X := fun a ha hm => by have h1 := hX _ hm; have h2 := (f4 a ha).1; omega
 exact ⟨hB, prs_keptT h3 hk hE, prs_keptT h4 hk hT, fun a ha => ⟨Nat.le_trans hbb (f3 a ha).1, (f3 a ha).2.same (hk.block _ (f3 a ha).2.lt (hE a ha))⟩, fun a ha => ⟨Nat.le_trans hbb (f4 a ha).1, (f4 a ha).2.same (hk.block _ (f4 a ha).2.lt (hT a ha))⟩⟩
end If
end Go.Df
namespace Go.Proofs.YtooejoajojanjaaGreatDoor
open Go.RowKit Go.Df Go.Df.If
attribute [local go_sem ↓] Go.wp_at_zero Go.wp_at_succ
set_option maxRecDepth 100000 in
set_option maxHeartbeats 4000000 in
theorem rPut_any {N F : Nat} {X : List Nat} {bs : Nat → Nat} {r : Nat} {T : Nat → Nat → Nat → Bool} (c a n d : Nat) (w : World) (hT : TabM N F X bs r w T) (hN : N ≤ 8192) (hF : F ≤ 1024) (hn : n < N) (ha : a < F) (hd : d < F) :
   Calls Tryz.prog 55 #[tabV N F r c, .int .i64 a, .int .i64 n, .int .i64 d] w fun e w' => e = .returned (.tuple #[]) ∧ Kept X w w' ∧ TabM N F X bs r w' (putT (T, false) n a d).1 := by
 have HT := Lib.hid hT
 obtain ⟨v, hv⟩ : ∃ v, T n a d = v := ⟨_, rfl⟩
 have HV := Lib.hid hv
 clear hT hv
 go_enter Tryz.func55, Tryz.ntmps55
 go_upto_region 1 with fail
 refine wp_named (fun W => ∃ b0, w.heap.size = b0 ∧ Blk W b0 [.int .i64 (F : Nat), .slice (some ⟨r, 0, none⟩) N c] ∧ Below w.heap.size w W) ⟨_, rfl, ?_, ?_⟩ ?_
 · exact kbn
 · go_grown
 rintro W ⟨b0, e0, B0, hB⟩
 rw [e0]
 have G0 : w.heap.size ≤ b0 := by omega
 clear e0
 have ⟨L0, C0, F0⟩ := B0
 have TW := Lib.hid (HT.out.kept0 ((Kept.refl [] w).call hB))
 have hkW : Kept X w W := keptWide ((Kept.refl [] w).call hB) (by simp)
 go_wp2_with (go_at_call 97; refine (rtput_is c a n d v _ TW.out hN hF hn ha hd HV.out).mono ?_; rintro e w3 ⟨rfl, hk3, ht3⟩)
 go_end0
 exact ⟨rfl, hkW.next hk3 (fun y hy => .inl hy), ht3⟩
set_option maxRecDepth 100000 in
set_option maxHeartbeats 40000000 in
theorem rfull_ok {p : Px} (A1 A2 A3 A4 : Option Addr) (n1 c1 n2 c2 n3 c3 n4 c4 mN F : Nat) (w : World) (hkn : p.kn = none) (hini : p.ini = iniI p.ns F p.ns.length) (hox : OkX p) (hG : Gr w A1 n1 A2 n2 p.ns p.es) (hP : PbW p.toPb n1 F mN A1 A2 A3 A4 n2 n3 n4 w) (hF9 : F ≤ 90) :
   Calls Tryz.prog 27 #[.agg #[.slice A1 n1 c1, .slice A2 n2 c2, .int .i64 mN, .int .i64 (F : Nat), .slice A3 n3 c3, .slice A4 n4 c4]] w (GetFul w (fulI p n1) 0) := by
 obtain ⟨i1, hinf1, hy0, hy1, hy2⟩ := info_parts sum_info
 have HG := Lib.hid hG
 have HP := Lib.hid hP
 have HKN := Lib.hid hkn
 have HINI := Lib.hid hini
 have HOX := Lib.hid hox
 have hn4 := hP.h4
 have hN8 := hP.N8
 have hF8 := hP.F8
 have hF1 := hP.F1
 have HNE := Lib.hid (sup_parts hP.ok.sup).2.2.1
 have HNL : Hid (p.ns.length = n1) := Lib.hid hP.nd.1
 have HPE : Hid (pbErr ⟨p.ns, p.es, mN, F, p.fl, p.sd⟩ = 0) := Lib.hid (by
   have h9 : pbErr ⟨p.ns, p.es, p.mn, p.F, p.fl, p.sd⟩ = 0 := pb_ok (p := p.toPb) hP.ok.sup (by have := hP.ok.f1; have := hP.ok.f2; omega) hP.ok.len (fun x hx => by
     have h1 := hP.ok.fl x hx
     have h2 := fl_end (l := gf p.fl x) hP.ok.f1 hP.ok.f2 h1.1 h1.2.1
     rw [h2, if_neg]
     rintro (h3 | h3)
     · have := h1.2.2.1; omega
     · exact h3 h1.2.2.2) hP.ok.sd
   rw [← hP.hm, ← hP.hF]
   exact h9)
 have hN1 : 0 < n1 := by
   have h1 := main_in (sup_parts hP.ok.sup).2.2.1
   have h2 := hP.nd.1
   omega
 have HFL : Hid (p.F.toNat = F) := Lib.hid HP.out.Fn
 clear hG hP hkn hini hox
 go_enter Tryz.func27, Tryz.ntmps27
 go_upto_region 1 with fail
 refine wp_named (fun W => ∃ b0, w.heap.size = b0 ∧ Blk W b0 [.slice A1 n1 c1, .slice A2 n2 c2, .int .i64 mN, .int .i64 (F : Nat), .slice A3 n3 c3, .slice A4 n4 c4] ∧ Below w.heap.size w W) ⟨_, rfl, ?_, ?_⟩ ?_
 · exact kbn
 · go_grown
 rintro W ⟨b0, e0, B0, hB⟩
 rw [e0]
 have G0 : w.heap.size ≤ b0 := by omega
 clear e0
 have ⟨L0, C0, F0⟩ := B0
 go_upto_region 2 with (go_at_call 28; refine (rifdsck_any A1 A2 A3 A4 n1 c1 n2 c2 n3 c3 n4 c4 mN F p.ns p.es p.fl p.sd _ (HG.out.nd.later hB) (HG.out.ed.later hB) (HP.out.fl.later hB) (HP.out.sd.later hB) (by omega) HG.out.wn HG.out.we).mono ?_; rw [HPE.out]; rintro e w1 ⟨rfl, hb1⟩)
 have hk1 : Kept [] W w1 := (Kept.refl _ _).call hb1
 have B01 := hk1.blk (by simp) B0
 have ⟨L01, C01, F01⟩ := B01
 have hB1 := hk1.below hB hB.size (by simp)
 clear C0 F0
 go_upto_region 5 with (go_at_call 54; refine (rempty_any A1 A2 A3 A4 n1 c1 n2 c2 n3 c3 n4 c4 mN F _ hN1 hN8 hF1 hF8).mono ?_; rintro e w2 ⟨X, bs, r, c, rfl, ht2, hX2, hr2, hb2⟩; have T2 := Lib.hid ht2; have HX2 := Lib.hid hX2; clear ht2 hX2)
 refine wp_named (fun V => ∃ g, w2.heap.size = g ∧ Blk V g [.int .i64 (F : Nat), .slice (some ⟨r, 0, none⟩) n1 c] ∧ Kept [] w2 V) ⟨_, rfl, Blk.new _ _ _ _ rfl, (Kept.refl _ _).alloc _⟩ ?_
 rintro V ⟨g, eg, Bg, hkV⟩
 have HGX : Hid (∀ x ∈ X, x ≠ g) := Lib.hid (fun x hx => by have := T2.out.lt x hx; omega)
 rw [eg]
 have hk1V : Kept [] w1 V := ((Kept.refl [] w1).call hb2).next hkV (by simp)
 have hwV : Below w.heap.size w V := hk1V.below hB1 hB1.size (by simp)
 have hkwV : Kept [] w V := (Kept.refl [] w).call hwV
 have TV := Lib.hid (T2.out.kept0 hkV)
 have HBg := Lib.hid Bg
 have HB0V := Lib.hid (hk1V.blk (by simp) B01)
 have HK1V := Lib.hid hk1V
 have HXw : Hid (∀ x ∈ X, w.heap.size ≤ x) := Lib.hid (fun x hx => Nat.le_trans hB1.size (HX2.out x hx))
 have hb0X : b0 ∉ X := fun h => by have h1 := HX2.out _ h; have h2 := B01.1; omega
 have hgX : g ∉ X := fun h => HGX.out _ h rfl
 have HND := Lib.hid (HP.out.nd)
 have ⟨LGV, CGV, FGV⟩ := Bg
 have ⟨L0V, C0V, F0V⟩ := HB0V.out
 clear C01 F01 eg Bg
 go_wp2_with fail
 go_loopw [6] (fun s6 wr => ∃ (n : Nat) (T : Nat → Nat → Nat → Bool), n ≤ n1 ∧ s6 = .int .i64 n ∧ Kept X V wr ∧ Hid (TabM n1 F X bs r wr T) ∧ Hid (SndTX p (T, false)) ∧ Hid (∀ x ∈ iniI p.ns F n, T x.1 x.2 x.2 = true)) (fun s6 _ => n1 - (intOf s6).toNat)
 case atStart => exact ⟨0, _, Nat.zero_le _, rfl, Kept.refl _ _, TV, Lib.hid (fun n a d h => by cases h), Lib.hid (fun x hx => by have := (iniI_mem.1 hx).1; omega)⟩
 case round =>
 clear CGV FGV C0V F0V
 obtain ⟨n, T, hn, rfl, hkr, TR, HSN, HIN⟩ := hrel
 have BGr := hkr.blk hgX HBg.out
 have B0r := hkr.blk hb0X HB0V.out
 have ⟨LGr, CGr, FGr⟩ := BGr
 have ⟨L0r, C0r, F0r⟩ := B0r
 have hkwr : Kept [] w wr := kept_fresh hkwV hkr (fun y hy => HXw.out y hy)
 by_cases hlt : n < n1
 case neg =>
   obtain rfl : n = n1 := by omega
   have HSN2 : Hid (∀ x ∈ p.ini, T x.1 x.2 x.2 = true) := Lib.hid (by rw [HINI.out, HNL.out]; exact HIN.out)
   have HE : Hid (EfW p none 0 false w1) := Lib.hid ⟨fun _ => rfl, fun L hL => by (rw [HKN.out] at hL; cases hL)⟩
   have HB1r : Hid (Below w1.heap.size w1 wr) := Lib.hid (kept_fresh HK1V.out hkr (fun y hy => HX2.out y hy)).toBelow
   go_upto_region 14 with (go_at_call 56; refine (rcloseX_any false c1 c2 c3 c4 c 0 _ HOX.out (fun _ => rfl) (fun h => absurd HKN.out h) HE.out (HP.out.later hB1) HB1r.out HX2.out TR.out hN1 HSN.out HSN2.out).mono ?_; rintro e w3 ⟨rfl, hk3, T3, ht3, hpe3⟩; have T3M := Lib.hid ht3; have HPX := Lib.hid hpe3; clear ht3 hpe3)
   have hkV3 : Kept X V w3 := hkr.next hk3 (fun y hy => .inl hy)
   have HBG3 := Lib.hid (hkV3.blk hgX HBg.out)
   have HB03 := Lib.hid (hkV3.blk hb0X HB0V.out)
   have ⟨LG3, CG3, FG3⟩ := HBG3.out
   have ⟨L03, C03, F03⟩ := HB03.out
   have hkw3 : Kept [] w w3 := kept_fresh hkwV hkV3 (fun y hy => HXw.out y hy)
   have HQ : Hid (∀ x, tabQ F T3 x F = pairX p x) := Lib.hid (fun x => pairX_tab HOX.out HFL.out HPX.out x)
   have HLQ : Hid (∀ x, (pairX p x).length ≤ 8100) := Lib.hid (fun x => by
     have h1 := pairX_len HOX.out HFL.out x
     have h2 : F * F ≤ 90 * 90 := Nat.mul_le_mul hF9 hF9
     omega)
   clear CGr FGr C0r F0r HSN2 HE HB1r
   go_wp2_with fail
   go_loopw [8, 9] (fun s8 s9 wr => ∃ (i : Nat) (A : Option Addr) (k cA : Nat) (l : List SuR), i ≤ n ∧ s9 = .int .i64 i ∧ s8 = .slice A k cA ∧ Kept [] w3 wr ∧ Hid (l.length = k) ∧ Hid (wr.ownsRow w3.heap.size 30 3 (.slice A k cA) k (sucells l)) ∧ Hid (RwS w3.heap.size 72 wr l (fulI p i))) (fun _ s9 _ => n - (intOf s9).toNat)
   case atStart => exact ⟨0, none, 0, 0, [], Nat.zero_le _, rfl, rfl, Kept.refl _ _, Lib.hid rfl, Lib.hid (World.ownsRow_nil _ _ _ _), Lib.hid (RwS.nil _ _ _)⟩
   case round =>
   rename World => wq
   clear CG3 FG3 C03 F03
   obtain ⟨i, A, k, cA, l, hi, rfl, rfl, hkq, HLK, OWN, RW⟩ := hrel
   have BGq := hkq.blk (by simp) HBG3.out
   have B0q := hkq.blk (by simp) HB03.out
   have ⟨LGq, CGq, FGq⟩ := BGq
   have ⟨L0q, C0q, F0q⟩ := B0q
   have hki : k ≤ i := by rw [← HLK.out, RW.out.1]; exact fulI_len p i
   have hkwq : Kept [] w wq := keptTrans hkw3 hkq
   by_cases hli : i < n
   case neg =>
     obtain rfl : i = n := by omega
     go_wp2_with fail
     go_ret2
     exact ⟨A, k, cA, rfl, by omega, (Sums.of OWN.out HLK.out RW.out).smw, hkwq.toBelow⟩
   have hi9 : (i : Int) < (n : Int) := by omega
   obtain ⟨b, o, rfl, hl, hc⟩ := HND.out.2 (by omega)
   obtain ⟨h1, h2, h3⟩ := hc i hli
   obtain ⟨nf, nk, ni, en⟩ : ∃ nf nk ni, gn p.ns i = ⟨nf, nk, ni⟩ := ⟨_, _, _, rfl⟩
   rw [en] at h1 h2 h3
   have q1 := (hkwq.cell b _ hl (by simp)).trans h1
   have q2 := (hkwq.cell b _ hl (by simp)).trans h2
   have hlq : b < wq.heap.size := Nat.lt_of_lt_of_le hl hkwq.size
   have HEN := Lib.hid en
   have TQ := Lib.hid (T3M.out.kept0 hkq)
   clear hc h1 h2 h3 en
   by_cases hk1 : nk = 1
   case neg =>
     have z1 : (nk == 1) = false := by simpa using hk1
     have HS : Hid (fulI p (i + 1) = fulI p i) := Lib.hid (fulI_no (fun h => hk1 (by rw [HEN.out] at h; exact h)))
     clear hk1
     go_wp2_with fail
     exact ⟨⟨i + 1, A, k, cA, l, by omega, by go_num, rfl, hkq, HLK, OWN, by rw [HS.out]; exact RW⟩, by simp [intOf]; omega⟩
   subst hk1
   have HS : Hid (fulI p (i + 1) = fulI p i ++ [sumF p i]) := Lib.hid (fulI_yes (by rw [HEN.out]))
   have hwh := Sp.whole_of HNE.out (x := i) (by rw [HNL.out]; exact hli)
   rw [HEN.out] at hwh
   dsimp only at hwh
   obtain ⟨x3, hx3⟩ := Int.eq_ofNat_of_zero_le hwh.1
   obtain ⟨x4, hx4⟩ := Int.eq_ofNat_of_zero_le hwh.2
   have hx3n : x3 < n := by have h9 := Sp.kindAt_lt hwh.1; have := HNL.out; omega
   have hx4n : x4 < n := by have h9 := Sp.kindAt_lt hwh.2; have := HNL.out; omega
   have HX3 := Lib.hid hx3
   have HX4 := Lib.hid hx4
   have HSO : Hid (sumF p i = ⟨nf, pairX p x3, pairX p x4⟩) := Lib.hid (by
     unfold sumF
     rw [HEN.out]
     dsimp only
     rw [hx3, hx4, Int.toNat_natCast, Int.toNat_natCast])
   obtain ⟨l3, hl3⟩ : ∃ l3, pairX p x3 = l3 := ⟨_, rfl⟩
   obtain ⟨l4, hl4⟩ : ∃ l4, pairX p x4 = l4 := ⟨_, rfl⟩
   rw [hl3, hl4] at HSO
   have HL3 : Hid (tabQ F T3 x3 F = l3) := Lib.hid (by rw [HQ.out, hl3])
   have HL4 : Hid (tabQ F T3 x4 F = l4) := Lib.hid (by rw [HQ.out, hl4])
   have HLE : Hid (l3.length ≤ 8100 ∧ l4.length ≤ 8100) := Lib.hid ⟨by rw [← hl3]; exact HLQ.out _, by rw [← hl4]; exact HLQ.out _⟩
   clear hwh hx3 hx4 hl3 hl4
   have HOF := Lib.hid (fun (wx : World) (hk : Kept [] wq wx) => roffunc_any c (some ⟨b, o, none⟩) A2 A3 A4 c1 n2 c2 n3 c3 n4 c4 mN F nf p.ns x3 x4 wx (TQ.out.kept0 hk) hN8 hF8 (HND.out.later (keptTrans hkwq hk).toBelow) HX3.out HX4.out hx3n hx4n)
   rw [HL3.out, HL4.out] at HOF
   go_upto_region 18 with fail
   go_cut [10] (fun s10 wx => ∃ (g9 : Nat) (E T : Option Addr) (ne ce nt ct : Nat), s10 = .pointer (some ⟨g9, 0, none⟩) ∧ SumAt wq.heap.size 72 wx g9 nf l3 l4 E T ne ce nt ct ∧ Kept [] wq wx ∧ wq.heap.size ≤ g9)
   case first =>
     refine wp_region_E 11 (fun w' => SX0 wq w') (by kernel_rfl) (by (exact kp0)) (fun hHeld => ?_)
     refine WE_tk 0 ?_
     refine WE_tk 1 ?_
     refine WE_tk 2 ?_
     refine WE_tk 3 ?_
     refine WE_tk 4 ?_
     refine WE_tk 5 ?_
     refine WE_tk 6 ?_
     refine WE_tk 7 ?_
     refine WE_tk 8 ?_
     refine WE_two 9 10 rfl rfl (by kernel_rfl) (fun K hK => ?_) (fun K hK => ?_)
     · go_simp
       (go_at_call 59; refine (HOF.out _ hHeld.1).mono ?_; rintro e w5 ⟨E5, ne5, ce5, T5, nt5, ct5, rfl, hpe5, hpt5, hfe5, hft5, hb5⟩; (first | (have hB9 := Blk.later (show Blk _ _ [Value.int .i64 0, .slice none 0 0, .slice none 0 0] from Blk.new _ _ _ _ rfl) hb5; have ⟨L9z, C9z, F9z⟩ := hB9) | (have hB9 := Blk.later (Blk.drew (show Blk _ _ [Value.int .i64 0, .slice none 0 0, .slice none 0 0] from Blk.new _ _ _ _ rfl)) hb5; have ⟨L9z, C9z, F9z⟩ := hB9) | skip))
       (try go_wp2_with fail)
       refine hK.out _ _ ?_ (fun hHeld => ?_)
       · (exact kp0)
       clear hK K
       refine WE_put ?_
       refine WE_step 10 rfl (by kernel_rfl) (fun K hK => ?_)
       go_simp
       refine hK.out _ _ ?_ (fun hHeld => ?_)
       · (exact kp0)
       clear hK K
       refine WE_put ?_
       refine WE_last rfl (by kernel_rfl) (fun K hK => ?_)
       go_simp
       refine hK.out _ _ ?_
       clear hK K
       ((try go_wp2_with fail); go_meet; (first | (refine ⟨w5.heap.size, E5, T5, ne5, ce5, nt5, ct5, rfl, SumAt.of (base' := wq.heap.size) (X := []) (Nat.le_refl _) (Blk.new _ _ _ _ rfl) hpe5 hpt5 (fun a ha => ⟨(hfe5 a ha).1, (hfe5 a ha).2⟩) (fun a ha => ⟨(hft5 a ha).1, (hft5 a ha).2⟩) ((Kept.refl _ _).alloc _) (by simp), (((Kept.refl [] wq).drew).call hb5).alloc _, (((Kept.refl [] wq).drew).call hb5).size⟩; done) | (have hk95 : Kept [] wq w5 := Kept.call (by (exact kpt0)) hb5; have hks9 := (((Kept.refl [wq.heap.size] w5).set wq.heap.size 0 (.int .i64 nf) (.inl (by simp))).set wq.heap.size 1 (.slice E5 ne5 ce5) (.inl (by simp))).set wq.heap.size 2 (.slice T5 nt5 ct5) (.inl (by simp)); exact ⟨wq.heap.size, E5, T5, ne5, ce5, nt5, ct5, rfl, SumAt.of (base' := wq.heap.size + 1) (X := [wq.heap.size]) (by omega) (((hB9.set 0 _).set 1 _).set 2 _) hpe5 hpt5 (fun a ha => ⟨by have h9 := (hfe5 a ha).1; simp at h9; omega, (hfe5 a ha).2⟩) (fun a ha => ⟨by have h9 := (hft5 a ha).1; simp at h9; omega, (hft5 a ha).2⟩) hks9 (by simp), kept_fresh hk95 hks9 (by simp), Nat.le_refl _⟩)))
     · go_simp
       refine hK.out _ _ ?_ (fun hHeld => ?_)
       · (exact kp0)
       clear hK K
       refine WE_put ?_
       refine WE_step 9 rfl (by kernel_rfl) (fun K hK => ?_)
       go_simp
       (go_at_call 59; refine (HOF.out _ hHeld.1).mono ?_; rintro e w5 ⟨E5, ne5, ce5, T5, nt5, ct5, rfl, hpe5, hpt5, hfe5, hft5, hb5⟩; (first | (have hB9 := Blk.later (show Blk _ _ [Value.int .i64 0, .slice none 0 0, .slice none 0 0] from Blk.new _ _ _ _ rfl) hb5; have ⟨L9z, C9z, F9z⟩ := hB9) | (have hB9 := Blk.later (Blk.drew (show Blk _ _ [Value.int .i64 0, .slice none 0 0, .slice none 0 0] from Blk.new _ _ _ _ rfl)) hb5; have ⟨L9z, C9z, F9z⟩ := hB9) | skip))
       (try go_wp2_with fail)
       refine hK.out _ _ ?_ (fun hHeld => ?_)
       · (exact kp0)
       clear hK K
       refine WE_put ?_
       refine WE_last rfl (by kernel_rfl) (fun K hK => ?_)
       go_simp
       refine hK.out _ _ ?_
       clear hK K
       ((try go_wp2_with fail); go_meet; (first | (refine ⟨w5.heap.size, E5, T5, ne5, ce5, nt5, ct5, rfl, SumAt.of (base' := wq.heap.size) (X := []) (Nat.le_refl _) (Blk.new _ _ _ _ rfl) hpe5 hpt5 (fun a ha => ⟨(hfe5 a ha).1, (hfe5 a ha).2⟩) (fun a ha => ⟨(hft5 a ha).1, (hft5 a ha).2⟩) ((Kept.refl _ _).alloc _) (by simp), (((Kept.refl [] wq).drew).call hb5).alloc _, (((Kept.refl [] wq).drew).call hb5).size⟩; done) | (have hk95 : Kept [] wq w5 := Kept.call (by (exact kpt0)) hb5; have hks9 := (((Kept.refl [wq.heap.size] w5).set wq.heap.size 0 (.int .i64 nf) (.inl (by simp))).set wq.heap.size 1 (.slice E5 ne5 ce5) (.inl (by simp))).set wq.heap.size 2 (.slice T5 nt5 ct5) (.inl (by simp)); exact ⟨wq.heap.size, E5, T5, ne5, ce5, nt5, ct5, rfl, SumAt.of (base' := wq.heap.size + 1) (X := [wq.heap.size]) (by omega) (((hB9.set 0 _).set 1 _).set 2 _) hpe5 hpt5 (fun a ha => ⟨by have h9 := (hfe5 a ha).1; simp at h9; omega, (hfe5 a ha).2⟩) (fun a ha => ⟨by have h9 := (hft5 a ha).1; simp at h9; omega, (hft5 a ha).2⟩) hks9 (by simp), kept_fresh hk95 hks9 (by simp), Nat.le_refl _⟩)))
   case rest =>
   rename World => wy
   obtain ⟨g9, E5, T5, ne5, ce5, nt5, ct5, rfl, ⟨BS, hp3, hp4, hf3, hf4⟩, hky, hg9⟩ := hcut
   have hkqy : Kept [] w3 wy := keptTrans hkq hky
   have hw3y : w3.heap.size ≤ wy.heap.size := hkqy.size
   have ⟨L9, C9, F9⟩ := BS
   have HB9 := Lib.hid BS
   have HP3 := Lib.hid hp3
   have HP4 := Lib.hid hp4
   have HF3 := Lib.hid hf3
   have HF4 := Lib.hid hf4
   have z3 : decide ((8192 : Int) < (ne5 : Int)) = false := by have h1 := HLE.out.1; have h2 := hp3.1; simp; omega
   have z4 : decide ((8192 : Int) < (nt5 : Int)) = false := by have h1 := HLE.out.2; have h2 := hp4.1; simp; omega
   have OWY := Lib.hid (own_keptT (X := []) OWN.out hky (by simp))
   have RWY := Lib.hid (RW.out.kept hky (fun _ _ _ => by simp))
   have HXA : Hid (∀ y ∈ (Value.slice A k cA).ownBlock.toList, w3.heap.size ≤ y) := (fun y hy => own_ge OWY.out (by simpa using hy))
   have HAPF : Hid (sucells l ++ [.int .i64 nf, .slice E5 ne5 ce5, .slice T5 nt5 ct5] = sucells (l ++ [⟨nf, E5, ne5, ce5, T5, nt5, ct5⟩])) := Lib.hid (sucells_snoc l ⟨nf, E5, ne5, ce5, T5, nt5, ct5⟩)
   clear CGq FGq C0q F0q q1 q2 BS hp3 hp4 hf3 hf4
   go_upto_region 21 with fail
   go_wp2_with (at_builtin; go_loud (refine wpList_append_rd _ rfl _ _ 22 rfl w3.heap.size 30 i1 (.agg #[.int .i64 0, .slice none 0 0, .slice none 0 0]) 3 56 Tryz.underlying22 hinf1 hy0 hy1 hy2 rfl (by decide) (.slice A k cA) k _ rfl (own_keptT (X := []) OWY.out ((Kept.refl _ _).alloc _) (by simp)) (some ⟨wy.heap.size, 0, none⟩) 1 1 [.int .i64 nf, .slice E5 ne5 ce5, .slice T5 nt5 ct5] rfl (new3T _ _ _ _ _ _ rfl) (fun h => by cases h) (by intro u hu; simp at hu; rcases hu with rfl | rfl | rfl <;> rfl) (k + 1) rfl _ HAPF.out (by unfold maxLen; omega) (by omega) (by simp; omega) ?_); intro A9 cc9 w9 hown9 hk9 hat9; have HO9 := Lib.hid hown9; have HK9 := Lib.hid hk9; clear hown9 hk9 hat9)
   have hky9 : Kept (Value.slice A k cA).ownBlock.toList wy w9 := ((Kept.refl _ wy).alloc _).next HK9.out (fun y hy => Or.inl hy)
   have RW5 := RWY.out.snoc (x := ⟨nf, E5, ne5, ce5, T5, nt5, ct5⟩) (u := ⟨nf, l3, l4⟩) rfl HP3.out HP4.out
     (fun a ha => ⟨by have h8 := (HF3.out a ha).1; have := hkq.size; omega, (HF3.out a ha).2⟩)
     (fun a ha => ⟨by have h8 := (HF4.out a ha).1; have := hkq.size; omega, (HF4.out a ha).2⟩)
   have RW9 := Lib.hid (RW5.kept hky9 (fun b hb _ hm => by
     have h1 : (Value.slice A k cA).ownBlock = some b := by simpa using hm
     exact absurd rfl (hb.ne (own_tag OWY.out h1) (by decide))))
   have hk39 : Kept [] w3 w9 := kept_fresh hkqy hky9 (fun y hy => HXA.out y hy)
   clear RW5 C9 F9
   exact ⟨⟨i + 1, A9, k + 1, cc9, l ++ [⟨nf, E5, ne5, ce5, T5, nt5, ct5⟩], by omega, by go_num, rfl, hk39, Lib.hid (by rw [List.length_append, HLK.out]; rfl), HO9, by rw [HS.out, HSO.out]; exact RW9⟩, by simp [intOf]; omega⟩
 have hn9 : (n : Int) < (n1 : Int) := by omega
 obtain ⟨b, o, rfl, hl, hc⟩ := HND.out.2 (by omega)
 obtain ⟨h1, h2, h3⟩ := hc n hlt
 obtain ⟨nf, nk, ni, en⟩ : ∃ nf nk ni, gn p.ns n = ⟨nf, nk, ni⟩ := ⟨_, _, _, rfl⟩
 rw [en] at h1 h2 h3
 have HH2 := Lib.hid h2
 have hlw : b < w.heap.size := hl
 have HEN := Lib.hid en
 clear hc h1 h2 h3 en
 by_cases hk1 : nk = 1
 case neg =>
   have z1 : (nk == 1) = false := by simpa using hk1
   have HS : Hid (iniI p.ns F (n + 1) = iniI p.ns F n) := Lib.hid (iniI_no (by rw [HEN.out]; exact hk1))
   have q2 := (hkwr.cell b _ hlw (by simp)).trans HH2.out
   have hlr : b < wr.heap.size := Nat.lt_of_lt_of_le hlw hkwr.size
   clear hk1
   go_wp2_with fail
   go_loopw [7] (fun s7 wq => s7 = .int .i64 0 ∧ wr = wq) (fun _ _ => 0)
   case atStart => exact ⟨rfl, rfl⟩
   case round =>
   obtain ⟨rfl, rfl⟩ := hrel
   have hFp : (0 : Int) < (F : Int) := by omega
   go_wp2_with fail
   exact ⟨⟨n + 1, T, by omega, by go_num, hkr, TR, HSN, by rw [HS.out]; exact HIN⟩, by simp [intOf]; omega⟩
 subst hk1
 have HS : Hid (iniI p.ns F (n + 1) = iniI p.ns F n ++ (List.range F).map fun a => (n, a)) := Lib.hid (iniI_yes (by rw [HEN.out]))
 have hnl : n < p.ns.length := by rw [HNL.out]; exact hlt
 go_wp2_with fail
 go_loopw [7] (fun s7 wq => ∃ (a : Nat) (T' : Nat → Nat → Nat → Bool), a ≤ F ∧ s7 = .int .i64 a ∧ Kept X V wq ∧ Hid (TabM n1 F X bs r wq T') ∧ Hid (SndTX p (T', false)) ∧ Hid (∀ x ∈ iniI p.ns F n ++ (List.range a).map fun a => (n, a), T' x.1 x.2 x.2 = true)) (fun s7 _ => F - (intOf s7).toNat)
 case atStart => exact ⟨0, T, Nat.zero_le _, rfl, hkr, TR, HSN, Lib.hid (by simpa using HIN.out)⟩
 case round =>
 rename World => wq
 clear CGr FGr C0r F0r TR HSN HIN
 obtain ⟨a, T', ha, rfl, hkq, TQ, HSQ, HIQ⟩ := hrel
 have ⟨LGq, CGq, FGq⟩ := hkq.blk hgX HBg.out
 have ⟨L0q, C0q, F0q⟩ := hkq.blk hb0X HB0V.out
 have hkwq : Kept [] w wq := kept_fresh hkwV hkq (fun y hy => HXw.out y hy)
 have q2 := (hkwq.cell b _ hlw (by simp)).trans HH2.out
 have hlq : b < wq.heap.size := Nat.lt_of_lt_of_le hlw hkwq.size
 by_cases hla : a < F
 case neg =>
   obtain rfl : a = F := by omega
   go_wp2_with fail
   exact ⟨⟨n + 1, T', by omega, by go_num, hkq, TQ, HSQ, by rw [HS.out]; exact HIQ⟩, by simp [intOf]; omega⟩
 have ha9 : (a : Int) < (F : Int) := by omega
 have HPX : Hid (PEx p a n a) := Lib.hid (.ini (by
   rw [HINI.out]
   exact iniI_mem.2 ⟨hnl, by rw [HEN.out], hla⟩))
 go_wp2_with (go_at_call 55; refine (rPut_any c a n a _ TQ.out hN8 hF8 hlt hla hla).mono ?_; rintro e w9 ⟨rfl, hk9, ht9⟩)
 have HSN9 : Hid (SndTX p ((putT (T', false) n a a).1, false)) := Lib.hid (fun n a d h => (HSQ.out.put HPX.out) n a d h)
 have HIN9 : Hid (∀ x ∈ iniI p.ns F n ++ (List.range (a + 1)).map fun a => (n, a), (putT (T', false) n a a).1 x.1 x.2 x.2 = true) := Lib.hid (fun x hx => by
   rw [putTx]
   rw [List.range_succ, List.map_append, ← List.append_assoc] at hx
   rcases List.mem_append.1 hx with h1 | h1
   · rw [HIQ.out x h1]; rfl
   · obtain rfl : x = (n, a) := by simpa using h1
     simp)
 exact ⟨⟨a + 1, _, by omega, by go_num, hkq.next hk9 (fun y hy => .inl hy), Lib.hid ht9, HSN9, HIN9⟩, by simp [intOf]; omega⟩
end Go.Proofs.YtooejoajojanjaaGreatDoor
