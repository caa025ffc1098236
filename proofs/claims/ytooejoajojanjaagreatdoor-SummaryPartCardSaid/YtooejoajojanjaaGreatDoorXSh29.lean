/- Texts: Vo Vx Nsz Nhz Vk. -/
import Derived.Test.YtooejoajojanjaaGreatDoorXSh28
import Derived.Test.YtooejoajojanjaaGreatDoorXSh18
import Derived.Test.YtooejoajojanjaaGreatDoorXSh23
import Derived.Test.YtooejoajojanjaaGreatDoorXSh24
import Derived.Test.YtooejoajojanjaaGreatDoorXSh12
import Derived.Test.YtooejoajojanjaaGreatDoorXSh05
namespace Go.Df.If
open Sp
theorem fulA_len (p : Pb) : (fulA p).length ≤ p.ns.length := by
 classical
 unfold fulA
 split
 · exact fulI_len _ _
 · simp
theorem fulA_pairs {p : Pb} (hF : p.F ≤ 8) : ∀ u ∈ fulA p, u.x.length ≤ 64 ∧ u.y.length ≤ 64 := fun u hu => by
 classical
 unfold fulA at hu
 split at hu
 · rename_i h0
   have h1 := fulI_pairs (fulPx_ok (ok_of h0)) u hu
   have h2 : (fulPx p).F.toNat ≤ 8 := by show p.F.toNat ≤ 8; omega
   have h3 : (fulPx p).F.toNat * (fulPx p).F.toNat ≤ 8 * 8 := Nat.mul_le_mul h2 h2
   omega
 · cases hu
theorem fulA_rows {p : Pb} (hF : p.F ≤ 8) : ∀ i, i < (fulA p).length → (gS (fulA p) i).x.length ≤ 64 ∧ (gS (fulA p) i).y.length ≤ 64 := fun i hi => fulA_pairs hF _ (by
 have e : gS (fulA p) i = (fulA p)[i] := by simp [gS, hi]
 rw [e]
 exact List.getElem_mem hi)
end Go.Df.If
namespace Go.Proofs.YtooejoajojanjaaGreatDoor
open Go.RowKit Go.Df Go.Df.If
attribute [local go_sem ↓] Go.wp_at_zero Go.wp_at_succ
end Go.Proofs.YtooejoajojanjaaGreatDoor
namespace Go.Df
open Go.RowKit
namespace If
open Sp
theorem Ok.stx_flow {p : Pb} (h : Ok p) {k : Nat} (hk : k < p.es.length) (h2 : (ge p.es k).k = 1 ∨ (ge p.es k).k = 5) : stOf p.ns (ge p.es k).b.toNat = stOf p.ns (ge p.es k).a.toNat := by
 have h0 := h.edge hk
 have h1 := h0.2.2.2.2.2.2.2
 unfold fitsB fitsN at h1
 rw [if_pos h2] at h1
 simp at h1
 have ha : (ge p.es k).a.toNat < p.ns.length := by omega
 have hb : (ge p.es k).b.toNat < p.ns.length := by omega
 have hs := h.nd.start ha
 have hl := stOf_le p.ns (ge p.es k).a.toNat
 exact (h.nd.start_iff hb (by omega) hs.2).2 (by rw [hs.1]; exact h1.1.1.1.1)
theorem Ok.stx_ret {p : Pb} (h : Ok p) {k : Nat} (hk : k < p.es.length) (h2 : (ge p.es k).k = 3 ∨ (ge p.es k).k = 4) : stOf p.ns (ge p.es k).b.toNat = stOf p.ns (ge p.es k).c.toNat := by
 have h0 := h.edge hk
 have h1 := h0.2.2.2.2.2.2.2
 unfold fitsB fitsN at h1
 rw [if_neg (by omega), if_neg (by omega)] at h1
 split at h1
 · cases h1
 · simp at h1
   have hc := h0.2.2.2.2.2.2.1 (by omega) (by omega)
   have hb : (ge p.es k).b.toNat < p.ns.length := by omega
   have hc' : (ge p.es k).c.toNat < p.ns.length := by omega
   have hs := h.nd.start hc'
   have hl := stOf_le p.ns (ge p.es k).c.toNat
   exact (h.nd.start_iff hb (by omega) hs.2).2 (by rw [hs.1]; exact h1.1.2.symm)
theorem Ok.stx_call {p : Pb} (h : Ok p) {k : Nat} (hk : k < p.es.length) (h2 : (ge p.es k).k = 2) : stOf p.ns (ge p.es k).b.toNat = (ge p.es k).b.toNat := by
 have h0 := h.edge hk
 have h1 := (h.call hk h2).1
 have hb : (ge p.es k).b.toNat < p.ns.length := by omega
 exact (h.nd.start_iff hb hb h1).2 rfl
theorem st_self {p : Pb} (h : Ok p) {n : Nat} (hn : n < p.ns.length) (hk : (gn p.ns n).k = 1) : stOf p.ns n = n := (h.nd.start_iff hn hn hk).2 rfl
structure AllIn (p : Px) : Prop where
 ok : OkX p
 kn : p.kn = none
 ini : ∀ x : Nat × Nat, x ∈ p.ini ↔ x.1 < p.ns.length ∧ (gn p.ns x.1).k = 1 ∧ (x.2 : Int) < p.F
theorem stx_ret2 {p : Pb} (h : Ok p) {c r : Nat} (hc : c < p.es.length) (hc2 : (ge p.es c).k = 2) (hr : r < p.es.length) (e2 : (gn p.ns (ge p.es c).b.toNat).f = (gn p.ns (ge p.es r).a.toNat).f) : stOf p.ns (ge p.es r).a.toNat = (ge p.es c).b.toNat := by
 have h1 := h.edge hc
 have h2 := h.edge hr
 exact (h.nd.start_iff (by omega) (by omega) (h.call hc hc2).1).2 e2
theorem PE.part {p : Px} (h : AllIn p) {a n d : Nat} (hp : PE p.toPb a n d) : PEx p a n d ∧ PE p.toPb a (stOf p.ns n) a := by
 have ho := h.ok.ok
 have f1 := ho.f1
 have hm := main_in (sup_parts ho.sup).2.2.1
 induction hp with
 | main =>
   refine ⟨.ini ((h.ini (p.mn.toNat, 0)).2 ⟨by dsimp only; omega, hm.2.2, by dsimp only; omega⟩), ?_⟩
   rw [st_self ho (by omega) hm.2.2]
   exact .main
 | seed _ hs ih => exact ⟨.seed ih.1 hs, ih.2⟩
 | flow hk hk2 hq _ ih =>
   refine ⟨.flow hk hk2 hq ih.1, ?_⟩
   rw [ho.stx_flow hk hk2]
   exact ih.2
 | call hk hk2 hq hp ih =>
   have hr := (PE.call hk hk2 hq hp).rng ho
   refine ⟨.ini ((h.ini (_, _)).2 ⟨hr.1, (ho.call hk hk2).1, hr.2.2⟩), ?_⟩
   rw [ho.stx_call hk hk2]
   exact .call hk hk2 hq hp
 | ret hc hc2 hq hr hr2 hs e1 e2 _ _ ih1 ih2 =>
   refine ⟨.ret h.kn hc hc2 hq hr hr2 hs e1 e2 ih1.1 ih2.1, ?_⟩
   rw [ho.stx_ret hr hr2, ← e1]
   exact ih1.2
theorem PEx.part {p : Px} (h : AllIn p) {a n d : Nat} (hp : PEx p a n d) : PE p.toPb a (stOf p.ns n) a → PE p.toPb a n d := by
 have ho := h.ok.ok
 induction hp with
 | ini hm =>
   intro h1
   have h2 := (h.ini _).1 hm
   rw [st_self ho h2.1 h2.2.1] at h1
   exact h1
 | seed _ hs ih => exact fun h1 => .seed (ih h1) hs
 | flow hk hk2 hq _ ih =>
   intro h1
   rw [ho.stx_flow hk hk2] at h1
   exact .flow hk hk2 hq (ih h1)
 | call hn => exact absurd h.kn hn
 | ret hn hc hc2 hq hr hr2 hs e1 e2 _ _ ih1 ih2 =>
   intro h1
   rw [ho.stx_ret hr hr2, ← e1] at h1
   have h2 := ih1 h1
   refine .ret hc hc2 hq hr hr2 hs e1 e2 h2 (ih2 ?_)
   rw [stx_ret2 ho hc hc2 hr e2]
   exact .call hc hc2 hq h2
 | retk hn => rw [h.kn] at hn; cases hn
open Classical in
/-- The facts that reach the start of a function, of the first i nodes. -/
noncomputable def startsF (p : Pb) (f : Int) (i : Nat) : List Int := (List.range i).flatMap fun n => if (gn p.ns n).f = f ∧ (gn p.ns n).k = 1 then ((pairL p n).filter fun q => decide (q.i = q.o)).map fun q => q.i else []
theorem startsF_yes {p : Pb} {f : Int} {i : Nat} (h : (gn p.ns i).f = f ∧ (gn p.ns i).k = 1) : startsF p f (i + 1) = startsF p f i ++ ((pairL p i).filter fun q => decide (q.i = q.o)).map fun q => q.i := by
 unfold startsF
 rw [List.range_succ, List.flatMap_append]
 simp [h]
theorem startsF_no {p : Pb} {f : Int} {i : Nat} (h : ¬ ((gn p.ns i).f = f ∧ (gn p.ns i).k = 1)) : startsF p f (i + 1) = startsF p f i := by
 unfold startsF
 rw [List.range_succ, List.flatMap_append]
 simp [h]
theorem startsF_mem {p : Pb} (ho : Ok p) {x : Nat} (hx : x < p.ns.length) {a : Nat} : ((a : Int) ∈ startsF p (gn p.ns x).f p.ns.length) ↔ PE p a (stOf p.ns x) a := by
 have hs := ho.nd.start hx
 have hl := stOf_le p.ns x
 unfold startsF
 rw [List.mem_flatMap]
 constructor
 · rintro ⟨n, hn, h⟩
   rw [List.mem_range] at hn
   by_cases hc : (gn p.ns n).f = (gn p.ns x).f ∧ (gn p.ns n).k = 1
   · rw [if_pos hc] at h
     obtain ⟨q, hq, e⟩ := List.mem_map.1 h
     rw [List.mem_filter] at hq
     obtain ⟨b, d, rfl, hp⟩ := (pairL_mem ho).1 hq.1
     have e2 := of_decide_eq_true hq.2
     dsimp only at e e2
     obtain rfl : b = a := by omega
     obtain rfl : b = d := by omega
     rw [(ho.nd.start_iff hx hn hc.2).2 hc.1]
     exact hp
   · rw [if_neg hc] at h; cases h
 · intro hp
   refine ⟨stOf p.ns x, List.mem_range.2 (by omega), ?_⟩
   rw [if_pos hs]
   exact List.mem_map.2 ⟨⟨a, a⟩, List.mem_filter.2 ⟨(pairL_mem ho).2 ⟨a, a, rfl, hp⟩, by simp⟩, rfl⟩
open Classical in
/-- The pairs whose first fact is in a list. -/
noncomputable def onlyF (l : List Pr) (at' : List Int) : List Pr := l.filter fun q => decide (q.i ∈ at')
theorem part_eq {p : Px} (h : AllIn p) {x : Nat} (hx : x < p.ns.length) : onlyF (pairX p x) (startsF p.toPb (gn p.ns x).f p.ns.length) = pairL p.toPb x := by
 have ho := h.ok.ok
 unfold onlyF
 refine lex_eq ((pairX_asc p x).filter _) (pairL_asc p.toPb x) fun q => ?_
 rw [List.mem_filter, pairX_mem h.ok, pairL_mem ho]
 constructor
 · rintro ⟨⟨a, d, rfl, hp⟩, h2⟩
   have h3 := of_decide_eq_true h2
   exact ⟨a, d, rfl, hp.part h ((startsF_mem ho hx).1 h3)⟩
 · rintro ⟨a, d, rfl, hp⟩
   have h3 := hp.part h
   exact ⟨⟨a, d, rfl, h3.1⟩, decide_eq_true ((startsF_mem ho hx).2 h3.2)⟩
end If
end Go.Df
namespace Go.Proofs.YtooejoajojanjaaGreatDoor
open Go.RowKit Go.Df Go.Df.If
attribute [local go_sem ↓] Go.wp_at_zero Go.wp_at_succ
set_option maxRecDepth 100000 in
set_option maxHeartbeats 8000000 in
theorem rsums_ok {p : Pb} (A1 A2 A3 A4 : Option Addr) (n1 c1 n2 c2 n3 c3 n4 c4 mN F : Nat) (w : World) (hG : Gr w A1 n1 A2 n2 p.ns p.es) (hP : PbW p n1 F mN A1 A2 A3 A4 n2 n3 n4 w) :
   Calls Tryz.prog 29 #[.agg #[.slice A1 n1 c1, .slice A2 n2 c2, .int .i64 mN, .int .i64 (F : Nat), .slice A3 n3 c3, .slice A4 n4 c4]] w fun e w' => ∃ A k c, e = .returned (.tuple #[.slice A k c, .int .i64 0]) ∧ Sums w' A k (sumI p n1) ∧ Below w.heap.size w w' := by
 obtain ⟨i1, hinf1, hy0, hy1, hy2⟩ := info_parts sum_info
 have HG := Lib.hid hG
 have HP := Lib.hid hP
 have hn4 := hP.h4
 have hN8 := hP.N8
 have hF8 := hP.F8
 have hF1 := hP.F1
 have HNE := Lib.hid (sup_parts hP.ok.sup).2.2.1
 have HNL : Hid (p.ns.length = n1) := Lib.hid hP.nd.1
 have HPE : Hid (pbErr ⟨p.ns, p.es, mN, F, p.fl, p.sd⟩ = 0) := Lib.hid (by
   have h9 : pbErr ⟨p.ns, p.es, p.mn, p.F, p.fl, p.sd⟩ = 0 := pb_ok (p := p) hP.ok.sup (by have := hP.ok.f1; have := hP.ok.f2; omega) hP.ok.len (fun x hx => by
     have h1 := hP.ok.fl x hx
     have h2 := fl_end (l := gf p.fl x) hP.ok.f1 hP.ok.f2 h1.1 h1.2.1
     rw [h2, if_neg]
     rintro (h3 | h3)
     · have := h1.2.2.1; omega
     · exact h3 h1.2.2.2) hP.ok.sd
   rw [← hP.hm, ← hP.hF]
   exact h9)
 clear hG hP
 go_enter Tryz.func29, Tryz.ntmps29
 go_upto_region 1 with fail
 refine wp_named (fun W => ∃ b0, w.heap.size = b0 ∧ Blk W b0 [.slice A1 n1 c1, .slice A2 n2 c2, .int .i64 mN, .int .i64 (F : Nat), .slice A3 n3 c3, .slice A4 n4 c4] ∧ Below w.heap.size w W) ⟨_, rfl, ?_, ?_⟩ ?_
 · exact kbn
 · go_grown
 rintro W ⟨b0, e0, B0, hB⟩
 rw [e0]
 have G0 : w.heap.size ≤ b0 := by omega
 clear e0
 have ⟨L0, C0, F0⟩ := B0
 go_upto_region 2 with (go_at_call 28; refine (rifdsck_any A1 A2 A3 A4 n1 c1 n2 c2 n3 c3 n4 c4 mN F p.ns p.es p.fl p.sd _ (HG.out.nd.later hB) (HG.out.ed.later hB) (HP.out.fl.later hB) (HP.out.sd.later hB) (by omega) HG.out.wn HG.out.we).mono ?_; rw [HPE.out]; rintro e w1 ⟨rfl, hb1⟩)
 have hk1 : Kept [] W w1 := (Kept.refl _ _).call hb1
 have B01 := hk1.blk (by simp) B0
 have ⟨L01, C01, F01⟩ := B01
 have hB1 := hk1.below hB hB.size (by simp)
 clear C0 F0
 go_upto_region 5 with (go_at_call 63; refine (redges_any c1 c2 c3 c4 _ (HP.out.later hB1)).mono ?_; rintro e w2 ⟨X, bs, r, c, T, rfl, ht2, hpe2, hb2⟩; have T2 := Lib.hid ht2; have HT2 := Lib.hid hpe2; clear ht2 hpe2)
 refine wp_named (fun V => ∃ g, w2.heap.size = g ∧ Blk V g [.int .i64 (F : Nat), .slice (some ⟨r, 0, none⟩) n1 c] ∧ Kept [] w2 V) ⟨_, rfl, Blk.new _ _ _ _ rfl, (Kept.refl _ _).alloc _⟩ ?_
 rintro V ⟨g, eg, Bg, hkV⟩
 rw [eg]
 have hk1V : Kept [] w1 V := ((Kept.refl [] w1).call hb2).next hkV (by simp)
 have hwV : Below w.heap.size w V := hk1V.below hB1 hB1.size (by simp)
 have hkwV : Kept [] w V := (Kept.refl [] w).call hwV
 have TV := Lib.hid (T2.out.kept0 hkV)
 have B0V := hk1V.blk (by simp) B01
 have HBg := Lib.hid Bg
 have HB0V := Lib.hid B0V
 have HND := Lib.hid (HP.out.nd)
 have HQ : Hid (∀ x, tabQ F T x F = pairL p x) := Lib.hid (fun x => pairL_tab HP.out.ok HP.out.Fn HT2.out x)
 have ⟨LGV, CGV, FGV⟩ := Bg
 have ⟨L0V, C0V, F0V⟩ := B0V
 clear C01 F01 eg Bg B0V
 go_wp2_with fail
 go_loopw [6, 7] (fun s6 s7 wr => ∃ (n : Nat) (A : Option Addr) (k cA : Nat) (l : List SuR), n ≤ n1 ∧ s7 = .int .i64 n ∧ s6 = .slice A k cA ∧ Kept [] V wr ∧ Hid (l.length = k) ∧ Hid (wr.ownsRow V.heap.size 30 3 (.slice A k cA) k (sucells l)) ∧ Hid (RwS V.heap.size 72 wr l (sumI p n))) (fun _ s7 _ => n1 - (intOf s7).toNat)
 case atStart => exact ⟨0, none, 0, 0, [], Nat.zero_le _, rfl, rfl, Kept.refl _ _, Lib.hid rfl, Lib.hid (World.ownsRow_nil _ _ _ _), Lib.hid (RwS.nil _ _ _)⟩
 case round =>
 clear CGV FGV C0V F0V
 obtain ⟨n, A, k, cA, l, hn, rfl, rfl, hkr, HLK, OWN, RW⟩ := hrel
 have ⟨LGr, CGr, FGr⟩ := hkr.blk (by simp) HBg.out
 have ⟨L0r, C0r, F0r⟩ := hkr.blk (by simp) HB0V.out
 have hkn : k ≤ n := by rw [← HLK.out, RW.out.1]; exact sumI_len p n
 by_cases hlt : n < n1
 case neg =>
   obtain rfl : n = n1 := by omega
   clear hlt
   go_wp2_with fail
   go_ret2
   exact ⟨A, k, cA, rfl, Sums.of OWN.out HLK.out RW.out, hkr.below hwV hwV.size (by simp)⟩
 have hkwr : Kept [] w wr := keptTrans hkwV hkr
 have hn9 : (n : Int) < (n1 : Int) := by omega
 obtain ⟨b, o, rfl, hl, hc⟩ := HND.out.2 (by omega)
 obtain ⟨h1, h2, h3⟩ := hc n hlt
 obtain ⟨nf, nk, ni, en⟩ : ∃ nf nk ni, gn p.ns n = ⟨nf, nk, ni⟩ := ⟨_, _, _, rfl⟩
 rw [en] at h1 h2 h3
 have g1 := (hkwr.cell b _ hl (by simp)).trans h1
 have g2 := (hkwr.cell b _ hl (by simp)).trans h2
 have g3 := (hkwr.cell b _ hl (by simp)).trans h3
 have hlr : b < wr.heap.size := Nat.lt_of_lt_of_le hl hkwr.size
 have HEN := Lib.hid en
 have HH1 := Lib.hid h1
 have hlw : b < w.heap.size := hl
 have TR := Lib.hid (TV.out.kept0 hkr)
 clear hc h1 h2 h3 en
 by_cases hk1 : nk = 1
 case neg =>
   have z1 : (nk == 1) = false := by simpa using hk1
   have HS : Hid (sumI p (n + 1) = sumI p n) := Lib.hid (sumI_no (fun h => hk1 (by have := h.1; rw [HEN.out] at this; exact this)))
   clear hk1
   go_wp2_with fail
   exact ⟨⟨n + 1, A, k, cA, l, by omega, by go_num, rfl, hkr, HLK, OWN, by rw [HS.out]; exact RW⟩, by simp [intOf]; omega⟩
 subst hk1
 obtain ⟨v, hv⟩ : ∃ v, T n 0 0 = v := ⟨_, rfl⟩
 have HV := Lib.hid hv
 clear hv
 cases v with
 | false =>
   have HS : Hid (sumI p (n + 1) = sumI p n) := Lib.hid (sumI_no (fun h => by have h9 := (HT2.out n 0 0).2 h.2; rw [HV.out] at h9; cases h9))
   go_wp2_with (go_at_call 64; refine (rtHas_is c 0 n 0 false _ TR.out hN8 hF8 hlt hF1 hF1 HV.out).mono ?_; rintro e w3 ⟨rfl, hb3⟩)
   have hk3 : Kept [] wr w3 := (Kept.refl _ _).call hb3
   exact ⟨⟨n + 1, A, k, cA, l, by omega, by go_num, rfl, keptTrans hkr hk3, HLK, Lib.hid (own_keptT (X := []) OWN.out hk3 (by simp)), by rw [HS.out]; exact Lib.hid (RW.out.kept hk3 (fun _ _ _ => by simp))⟩, by simp [intOf]; omega⟩
 | true =>
 have HS : Hid (sumI p (n + 1) = sumI p n ++ [sumOf p n]) := Lib.hid (sumI_yes (by rw [HEN.out]) ((HT2.out n 0 0).1 HV.out))
 have hwh := Sp.whole_of HNE.out (x := n) (by rw [HNL.out]; exact hlt)
 rw [HEN.out] at hwh
 dsimp only at hwh
 obtain ⟨x3, hx3⟩ := Int.eq_ofNat_of_zero_le hwh.1
 obtain ⟨x4, hx4⟩ := Int.eq_ofNat_of_zero_le hwh.2
 have hx3n : x3 < n1 := by have h9 := Sp.kindAt_lt hwh.1; have := HNL.out; omega
 have hx4n : x4 < n1 := by have h9 := Sp.kindAt_lt hwh.2; have := HNL.out; omega
 have HX3 := Lib.hid hx3
 have HX4 := Lib.hid hx4
 have HSO : Hid (sumOf p n = ⟨nf, tabQ F T x3 F, tabQ F T x4 F⟩) := Lib.hid (by
   unfold sumOf
   rw [HEN.out]
   dsimp only
   rw [hx3, hx4, Int.toNat_natCast, Int.toNat_natCast, HQ.out, HQ.out])
 clear hwh hx3 hx4
 go_upto_region 10 with (go_at_call 64; refine (rtHas_is c 0 n 0 true _ TR.out hN8 hF8 hlt hF1 hF1 HV.out).mono ?_; rintro e w3 ⟨rfl, hb3⟩)
 have hk3 : Kept [] wr w3 := (Kept.refl _ _).call hb3
 have hkV3 : Kept [] V w3 := keptTrans hkr hk3
 have hkw3 : Kept [] w w3 := keptTrans hkwV hkV3
 have ⟨LG3, CG3, FG3⟩ := hkV3.blk (by simp) HBg.out
 have ⟨L03, C03, F03⟩ := hkV3.blk (by simp) HB0V.out
 have gb3 := (hkw3.cell b _ hlw (by simp)).trans HH1.out
 have hl3 : b < w3.heap.size := Nat.lt_of_lt_of_le hlw hkw3.size
 have OW3 := Lib.hid (own_keptT (X := []) OWN.out hk3 (by simp))
 have RW3 := Lib.hid (RW.out.kept hk3 (fun _ _ _ => by simp))
 have HXA : Hid (∀ y ∈ (Value.slice A k cA).ownBlock.toList, V.heap.size ≤ y) := (fun y hy => own_ge OW3.out (by simpa using hy))
 have x0 : b0 ∉ (Value.slice A k cA).ownBlock.toList := fun hm => by have h8 := HXA.out b0 hm; have h9 := HB0V.out.1; omega
 have xg : g ∉ (Value.slice A k cA).ownBlock.toList := fun hm => by have h8 := HXA.out g hm; have h9 := HBg.out.1; omega
 have xb : b ∉ (Value.slice A k cA).ownBlock.toList := fun hm => by have h8 := HXA.out b hm; have h9 := hkwV.size; omega
 have HAPF : Hid (∀ (E T : Option Addr) (ne ce nt ct : Nat), sucells l ++ [.int .i64 nf, .slice E ne ce, .slice T nt ct] = sucells (l ++ [⟨nf, E, ne, ce, T, nt, ct⟩])) := Lib.hid (fun E T ne ce nt ct => sucells_snoc l ⟨nf, E, ne, ce, T, nt, ct⟩)
 have hsV3 := hkV3.size
 clear CGr FGr C0r F0r g1 g2 g3
 refine wp_region_E 13 (fun w' => SXv (Value.slice A k cA).ownBlock.toList b0 g b w3 w') (by kernel_rfl) (by (first | (with_reducible assumption) | exact SXv.of (Kept.refl _ _).drew L03 LG3 hl3 x0 xg xb | exact SXv.of (hHeld.1.call (by assumption)) L03 LG3 hl3 x0 xg xb | exact SXv.of (hHeld.1.alloc _) L03 LG3 hl3 x0 xg xb | exact SXv.of HKA.out L03 LG3 hl3 x0 xg xb)) (fun hHeld => ?_)
 refine WE_tk 0 ?_
 refine WE_tk 1 ?_
 refine WE_tk 2 ?_
 refine WE_tk 3 ?_
 refine WE_tk 4 ?_
 refine WE_tk 5 ?_
 refine WE_tk 6 ?_
 refine WE_tk 7 ?_
 refine WE_tk 8 ?_
 refine WE_tk 9 ?_
 refine WE_step 10 rfl (by kernel_rfl) (fun K hK => ?_)
 go_simp
 (go_at_call 59; with_reducible refine (roffunc_any c _ A2 A3 A4 c1 n2 c2 n3 c3 n4 c4 mN F nf p.ns x3 x4 _ (TV.out.kept0 (kept_fresh hkV3 hHeld.1 (fun y hy => HXA.out y hy))) hN8 hF8 (HND.out.later (keptTrans hkwV (kept_fresh hkV3 hHeld.1 (fun y hy => HXA.out y hy))).toBelow) HX3.out HX4.out hx3n hx4n).mono ?_; rintro e w5 ⟨E5, ne5, ce5, T5, nt5, ct5, rfl, hpe5, hpt5, hfe5, hft5, hb5⟩; have HPE5 := Lib.hid hpe5; have HPT5 := Lib.hid hpt5; have HFE5 := Lib.hid hfe5; have HFT5 := Lib.hid hft5; have hkB := Lib.hid (((Kept.refl [] w3).drew).call hb5); have hsB := hkB.out.size; clear hpe5 hpt5 hfe5 hft5)
 (try go_wp2_with fail)
 refine hK.out _ _ ?_ (fun hHeld => ?_)
 · (first | (with_reducible assumption) | exact SXv.of (Kept.refl _ _).drew L03 LG3 hl3 x0 xg xb | exact SXv.of (hHeld.1.call (by assumption)) L03 LG3 hl3 x0 xg xb | exact SXv.of (hHeld.1.alloc _) L03 LG3 hl3 x0 xg xb | exact SXv.of HKA.out L03 LG3 hl3 x0 xg xb)
 clear hK K
 refine WE_put ?_
 refine WE_step 11 rfl (by kernel_rfl) (fun K hK => ?_)
 go_simp
 refine hK.out _ _ ?_ (fun hHeld => ?_)
 · (first | (with_reducible assumption) | exact SXv.of (Kept.refl _ _).drew L03 LG3 hl3 x0 xg xb | exact SXv.of (hHeld.1.call (by assumption)) L03 LG3 hl3 x0 xg xb | exact SXv.of (hHeld.1.alloc _) L03 LG3 hl3 x0 xg xb | exact SXv.of HKA.out L03 LG3 hl3 x0 xg xb)
 clear hK K
 refine WE_put ?_
 refine WE_step 12 rfl (by kernel_rfl) (fun K hK => ?_)
 (refine step_append_rd _ rfl _ _ 22 rfl V.heap.size 30 i1 (.agg #[.int .i64 0, .slice none 0 0, .slice none 0 0]) 3 56 Tryz.underlying22 hinf1 hy0 hy1 hy2 rfl (by decide) (.slice A k cA) k _ rfl (own_keptT (X := []) OW3.out (hkB.out.alloc _) (by simp)) (some ⟨w5.heap.size, 0, none⟩) 1 1 [.int .i64 nf, .slice E5 ne5 ce5, .slice T5 nt5 ct5] rfl (new3T _ _ _ _ _ _ rfl) (fun h => by cases h) (by intro u hu; simp at hu; rcases hu with rfl | rfl | rfl <;> rfl) (k + 1) rfl _ (HAPF.out E5 T5 ne5 ce5 nt5 ct5) (by unfold maxLen; omega) (by omega) (by simp; omega) ?_; intro A9 c9 w9 hown9 hk9 hat9; have HKA := Lib.hid (((keptWide hkB.out (by simp)).alloc _).next hk9 (fun y hy => Or.inl hy) : Kept (Value.slice A k cA).ownBlock.toList w3 w9); have HO9 := Lib.hid hown9; have HK9 := Lib.hid hk9; clear hown9 hk9 hat9)
 refine hK.out _ _ ?_ (fun hHeld => ?_)
 · (first | (with_reducible assumption) | exact SXv.of (Kept.refl _ _).drew L03 LG3 hl3 x0 xg xb | exact SXv.of (hHeld.1.call (by assumption)) L03 LG3 hl3 x0 xg xb | exact SXv.of (hHeld.1.alloc _) L03 LG3 hl3 x0 xg xb | exact SXv.of HKA.out L03 LG3 hl3 x0 xg xb)
 clear hK K
 refine WE_put ?_
 refine WE_last rfl (by kernel_rfl) (fun K hK => ?_)
 go_simp
 refine hK.out _ _ ?_
 clear hK K
 have OW5 := own_keptT (X := []) OW3.out hkB.out (by simp)
 have hk59 : Kept (Value.slice A k cA).ownBlock.toList w5 w9 := ((Kept.refl _ w5).alloc _).next HK9.out (fun y hy => Or.inl hy)
 have RW5 := (RW3.out.kept hkB.out (fun _ _ _ => by simp)).snoc (x := ⟨nf, E5, ne5, ce5, T5, nt5, ct5⟩) (u := ⟨nf, tabQ F T x3 F, tabQ F T x4 F⟩) rfl HPE5.out HPT5.out
   (fun a ha => ⟨by have h8 := (HFE5.out a ha).1; simp at h8; omega, (HFE5.out a ha).2⟩)
   (fun a ha => ⟨by have h8 := (HFT5.out a ha).1; simp at h8; omega, (HFT5.out a ha).2⟩)
 have RW9 := Lib.hid (RW5.kept hk59 (fun b hb _ hm => by
   have h1 : (Value.slice A k cA).ownBlock = some b := by simpa using hm
   exact absurd rfl (hb.ne (own_tag OW5 h1) (by decide))))
 have hkV9 : Kept [] V w9 := kept_fresh hkV3 HKA.out (fun y hy => HXA.out y hy)
 clear OW5 RW5
 go_wp2_with fail
 exact ⟨⟨n + 1, A9, k + 1, c9, l ++ [⟨nf, E5, ne5, ce5, T5, nt5, ct5⟩], by omega, by go_num, rfl, hkV9, Lib.hid (by rw [List.length_append, HLK.out]; rfl), HO9, by rw [HS.out, HSO.out]; exact RW9⟩, by simp [intOf]; omega⟩
set_option maxRecDepth 100000 in
set_option maxHeartbeats 4000000 in
theorem rpaths_ok {p : Pb} (A1 A2 A3 A4 : Option Addr) (n1 c1 n2 c2 n3 c3 n4 c4 mN F : Nat) (w : World) (hG : Gr w A1 n1 A2 n2 p.ns p.es) (hP : PbW p n1 F mN A1 A2 A3 A4 n2 n3 n4 w) :
   Calls Tryz.prog 30 #[.agg #[.slice A1 n1 c1, .slice A2 n2 c2, .int .i64 mN, .int .i64 (F : Nat), .slice A3 n3 c3, .slice A4 n4 c4]] w fun e w' => ∃ A cA, e = .returned (.tuple #[.slice A n1 cA, .int .i64 0]) ∧ Flw w' A n1 ((List.range n1).map (pairL p)) ∧ Below w.heap.size w w' := by
 obtain ⟨i0, hinf0, hz0, hz1, hz2⟩ := info_parts prowg_info
 have HG := Lib.hid hG
 have HP := Lib.hid hP
 have hn4 := hP.h4
 have hN8 := hP.N8
 have hF8 := hP.F8
 have hF1 := hP.F1
 have HPE : Hid (pbErr ⟨p.ns, p.es, mN, F, p.fl, p.sd⟩ = 0) := Lib.hid (by
   have h9 : pbErr ⟨p.ns, p.es, p.mn, p.F, p.fl, p.sd⟩ = 0 := pb_ok (p := p) hP.ok.sup (by have := hP.ok.f1; have := hP.ok.f2; omega) hP.ok.len (fun x hx => by
     have h1 := hP.ok.fl x hx
     have h2 := fl_end (l := gf p.fl x) hP.ok.f1 hP.ok.f2 h1.1 h1.2.1
     rw [h2, if_neg]
     rintro (h3 | h3)
     · have := h1.2.2.1; omega
     · exact h3 h1.2.2.2) hP.ok.sd
   rw [← hP.hm, ← hP.hF]
   exact h9)
 clear hG hP
 go_enter Tryz.func30, Tryz.ntmps30
 go_upto_region 1 with fail
 refine wp_named (fun W => ∃ b0, w.heap.size = b0 ∧ Blk W b0 [.slice A1 n1 c1, .slice A2 n2 c2, .int .i64 mN, .int .i64 (F : Nat), .slice A3 n3 c3, .slice A4 n4 c4] ∧ Below w.heap.size w W) ⟨_, rfl, ?_, ?_⟩ ?_
 · exact kbn
 · go_grown
 rintro W ⟨b0, e0, B0, hB⟩
 rw [e0]
 have G0 : w.heap.size ≤ b0 := by omega
 clear e0
 have ⟨L0, C0, F0⟩ := B0
 go_upto_region 2 with (go_at_call 28; refine (rifdsck_any A1 A2 A3 A4 n1 c1 n2 c2 n3 c3 n4 c4 mN F p.ns p.es p.fl p.sd _ (HG.out.nd.later hB) (HG.out.ed.later hB) (HP.out.fl.later hB) (HP.out.sd.later hB) (by omega) HG.out.wn HG.out.we).mono ?_; rw [HPE.out]; rintro e w1 ⟨rfl, hb1⟩)
 have hk1 : Kept [] W w1 := (Kept.refl _ _).call hb1
 have B01 := hk1.blk (by simp) B0
 have ⟨L01, C01, F01⟩ := B01
 have hB1 := hk1.below hB hB.size (by simp)
 clear C0 F0
 go_upto_region 5 with (go_at_call 63; refine (redges_any c1 c2 c3 c4 _ (HP.out.later hB1)).mono ?_; rintro e w2 ⟨X, bs, r, c, T, rfl, ht2, hpe2, hb2⟩; have T2 := Lib.hid ht2; have HT2 := Lib.hid hpe2; clear ht2 hpe2)
 refine wp_named (fun V => ∃ g, w2.heap.size = g ∧ Blk V g [.int .i64 (F : Nat), .slice (some ⟨r, 0, none⟩) n1 c] ∧ Kept [] w2 V) ⟨_, rfl, Blk.new _ _ _ _ rfl, (Kept.refl _ _).alloc _⟩ ?_
 rintro V ⟨g, eg, Bg, hkV⟩
 rw [eg]
 have hk1V : Kept [] w1 V := ((Kept.refl [] w1).call hb2).next hkV (by simp)
 have hwV : Below w.heap.size w V := hk1V.below hB1 hB1.size (by simp)
 have TV := Lib.hid (T2.out.kept0 hkV)
 have B0V := hk1V.blk (by simp) B01
 have HBg := Lib.hid Bg
 have ⟨LGV, CGV, FGV⟩ := Bg
 have ⟨L0V, C0V, F0V⟩ := B0V
 clear C01 F01 eg Bg
 go_wp2_with fail
 go_loopw [6, 7] (fun s6 s7 wr => ∃ (n : Nat) (A : Option Addr) (cA : Nat) (R : Nat → Option Addr × Nat × Nat), n ≤ n1 ∧ s7 = .int .i64 n ∧ s6 = .slice A n cA ∧ Kept [] V wr ∧ Hid (wr.ownsRow V.heap.size 28 1 (.slice A n cA) n ((List.range n).map fun x => Value.slice (R x).1 (R x).2.1 (R x).2.2)) ∧ Hid (RwP V.heap.size 72 R (fun x => tabQ F T x F) n wr)) (fun _ s7 _ => n1 - (intOf s7).toNat)
 case atStart => exact ⟨0, none, 0, fun _ => (none, 0, 0), Nat.zero_le _, rfl, rfl, Kept.refl _ _, Lib.hid (World.ownsRow_nil _ _ _ _), Lib.hid (fun x h => absurd h (by omega))⟩
 case round =>
 clear CGV FGV C0V F0V
 obtain ⟨n, A, cA, R, hn, rfl, rfl, hkr, OWN, RW⟩ := hrel
 have ⟨LGr, CGr, FGr⟩ := hkr.blk (by simp) HBg.out
 have ⟨L0r, C0r, F0r⟩ := hkr.blk (by simp) B0V
 by_cases hlt : n < n1
 case neg =>
   obtain rfl : n = n1 := by omega
   clear hlt
   go_wp2_with fail
   go_ret2
   refine ⟨A, cA, rfl, ?_, hkr.below hwV hwV.size (by simp)⟩
   have e2 : (List.range n).map (fun x => tabQ F T x F) = (List.range n).map (pairL p) := List.map_congr_left fun x _ => pairL_tab HP.out.ok HP.out.Fn HT2.out x
   rw [← e2]
   refine ⟨by simp, fun h0 => ?_⟩
   obtain ⟨q, cq, hv, hbq, hql, -, -, hcell, -⟩ := own_cellsT OWN.out h0
   injection hv with e1 _ e3
   refine ⟨q, 0, e1, hql, fun x hx => ?_⟩
   obtain ⟨h1, h2, -⟩ := RW.out x hx
   refine ⟨(R x).1, (R x).2.1, (R x).2.2, by rw [Nat.zero_add, hcell x (by omega)]; simp [hx], h2, ?_⟩
   have e9 : gf ((List.range n).map fun x => tabQ F T x F) x = tabQ F T x F := by simp [gf, hx]
   rw [e9]
   exact h1
 have hn9 : (n : Int) < (n1 : Int) := by omega
 have TR := Lib.hid (TV.out.kept0 hkr)
 have hsr := hkr.size
 go_wp2_with (first
   | (go_at_call 65; refine (rpairsat_any c n _ TR.out hN8 hF8 hlt).mono ?_; rintro e w6 ⟨A6, k6, c6, rfl, hk6, hp6, hf6, hb6⟩; have HP6 := Lib.hid hp6; have HF6 := Lib.hid hf6; have hkr6 := Lib.hid ((Kept.refl [] wr).call hb6); have OW6 := Lib.hid (own_keptT (X := []) OWN.out hkr6.out (by simp)); have RW6 := Lib.hid ((RW.out.kept hkr6.out (fun _ _ _ => by simp)).snoc (c := c6) (show Prs w6 A6 k6 ((fun x => tabQ F T x F) n) from HP6.out) hk6 (fun a ha => ⟨by have := (HF6.out a ha).1; omega, (HF6.out a ha).2⟩)); have HAP := Lib.hid (rowsP_snoc R n k6 c6 A6); have hs6 := hkr6.out.size; clear hp6 hf6)
   | (at_builtin; refine wpList_append_rd _ rfl _ _ 62 rfl V.heap.size 28 i0 (.slice none 0 0) 1 24 Tryz.underlying62 hinf0 hz0 hz1 hz2 rfl (by decide) (.slice A n cA) n _ rfl (own_keptT (X := []) OW6.out ((Kept.refl _ _).alloc _) (by simp)) (some ⟨w6.heap.size, 0, none⟩) 1 1 [.slice A6 k6 c6] rfl (Rd.new1 _ _ _ _ rfl) (fun h => by cases h) (by intro u hu; simp at hu; subst hu; rfl) (n + 1) rfl _ HAP.out (by unfold maxLen; omega) (by omega) (by simp; omega) ?_; intro A8 c8 w8 hown8 hk8 hat8; have HK8 := Lib.hid hk8; have HO8 := Lib.hid hown8; clear hown8 hk8 hat8))
 have hk68 : Kept (Value.slice A n cA).ownBlock.toList w6 w8 := ((Kept.refl _ w6).alloc _).next HK8.out (fun y hy => Or.inl hy)
 have hkV8 : Kept [] V w8 := (keptTrans hkr hkr6.out).next hk68 (fun y hy => Or.inr (own_ge OW6.out (by simpa using hy)))
 have RW8 := RW6.out.kept hk68 (fun b hb _ hm => by
   have h1 : (Value.slice A n cA).ownBlock = some b := by simpa using hm
   exact absurd rfl (hb.ne (own_tag OW6.out h1) (by decide)))
 exact ⟨⟨n + 1, A8, c8, _, by omega, by go_num, rfl, hkV8, HO8, Lib.hid RW8⟩, by simp [intOf]; omega⟩
end Go.Proofs.YtooejoajojanjaaGreatDoor
namespace Go.Df
open Go.RowKit
namespace If
open Sp
def stI (l : List Pr) (i : Nat) : List Int := ((l.take i).filter fun q => decide (q.i = q.o)).map fun q => q.i
theorem stI_zero (l : List Pr) : stI l 0 = [] := by simp [stI]
theorem stI_all (l : List Pr) {n : Nat} (h : l.length = n) : stI l n = (l.filter fun q => decide (q.i = q.o)).map fun q => q.i := by
 unfold stI
 rw [List.take_of_length_le (Nat.le_of_eq h)]
theorem gp_get {l : List Pr} {i : Nat} (h : i < l.length) : l[i]? = some (gp l i) := by rw [gp_lt h, List.getElem?_eq_getElem h]
theorem stI_yes {l : List Pr} {i : Nat} (h : i < l.length) (e : (gp l i).i = (gp l i).o) : stI l (i + 1) = stI l i ++ [(gp l i).i] := by
 unfold stI
 rw [take_snocN (gp_get h), List.filter_append, List.map_append]
 simp [e]
theorem stI_no {l : List Pr} {i : Nat} (h : i < l.length) (e : (gp l i).i ≠ (gp l i).o) : stI l (i + 1) = stI l i := by
 unfold stI
 rw [take_snocN (gp_get h), List.filter_append, List.map_append]
 simp [e]
theorem stI_len (l : List Pr) (i : Nat) : (stI l i).length ≤ i := by
 unfold stI
 rw [List.length_map]
 exact Nat.le_trans (List.length_filter_le _ _) (by simp; omega)
theorem startsF_zero (p : Pb) (f : Int) : startsF p f 0 = [] := by simp [startsF]
theorem startsF_len {p : Pb} (h : ∀ x, (pairL p x).length ≤ 64) (f : Int) : ∀ i, (startsF p f i).length ≤ i * 64
 | 0 => by simp [startsF]
 | i + 1 => by
   have h1 := startsF_len h f i
   by_cases e : (gn p.ns i).f = f ∧ (gn p.ns i).k = 1
   · rw [startsF_yes e, List.length_append, List.length_map]
     have h2 := List.length_filter_le (fun q : Pr => decide (q.i = q.o)) (pairL p i)
     have h3 := h i
     omega
   · rw [startsF_no e]; omega
def onI (l : List Pr) (a : List Int) (i : Nat) : List Pr := (l.take i).filter fun q => decide (q.i ∈ a)
theorem onI_zero (l : List Pr) (a : List Int) : onI l a 0 = [] := by simp [onI]
theorem onI_all (l : List Pr) (a : List Int) {n : Nat} (h : l.length = n) : onI l a n = onlyF l a := by
 unfold onI onlyF
 rw [List.take_of_length_le (Nat.le_of_eq h)]
theorem onI_yes {l : List Pr} {a : List Int} {i : Nat} (h : i < l.length) (e : (gp l i).i ∈ a) : onI l a (i + 1) = onI l a i ++ [gp l i] := by
 unfold onI
 rw [take_snocN (gp_get h), List.filter_append]
 simp [e]
theorem onI_no {l : List Pr} {a : List Int} {i : Nat} (h : i < l.length) (e : (gp l i).i ∉ a) : onI l a (i + 1) = onI l a i := by
 unfold onI
 rw [take_snocN (gp_get h), List.filter_append]
 simp [e]
theorem onI_len (l : List Pr) (a : List Int) (i : Nat) : (onI l a i).length ≤ i := by
 unfold onI
 exact Nat.le_trans (List.length_filter_le _ _) (by simp; omega)
theorem fulPx_all {p : Pb} (h : Ok p) : AllIn (fulPx p) :=
 ⟨fulPx_ok h, rfl, fun x => by
   show x ∈ iniI p.ns p.F.toNat p.ns.length ↔ _
   rw [iniI_mem]
   have f1 := h.f1
   show _ ↔ x.1 < p.ns.length ∧ (gn p.ns x.1).k = 1 ∧ (x.2 : Int) < p.F
   constructor
   · rintro ⟨h1, h2, h3⟩; exact ⟨h1, h2, by omega⟩
   · rintro ⟨h1, h2, h3⟩; exact ⟨h1, h2, by omega⟩⟩
theorem sumI_mem {p : Pb} : ∀ i, ∀ u ∈ sumI p i, ∃ j, j < i ∧ (gn p.ns j).k = 1 ∧ u = sumOf p j
 | 0, u, h => by simp [sumI] at h
 | i + 1, u, h => by
   by_cases h0 : (gn p.ns i).k = 1 ∧ PE p 0 i 0
   · rw [sumI_yes h0.1 h0.2] at h
     rcases List.mem_append.1 h with h1 | h1
     · obtain ⟨j, hj, h2⟩ := sumI_mem i u h1
       exact ⟨j, by omega, h2⟩
     · obtain rfl : u = sumOf p i := by simpa using h1
       exact ⟨i, by omega, h0.1, rfl⟩
   · rw [sumI_no h0] at h
     obtain ⟨j, hj, h2⟩ := sumI_mem i u h
     exact ⟨j, by omega, h2⟩
theorem part_sum {p : Pb} (h0 : pbErr p = 0) {i k : Nat} (hi : i < (sumI p p.ns.length).length) (hk : k < (fulA p).length) (hf : (gS (fulA p) k).f = (gS (sumI p p.ns.length) i).f) :
   onlyF (gS (fulA p) k).x (startsF p (gS (fulA p) k).f p.ns.length) = (gS (sumI p p.ns.length) i).x ∧ onlyF (gS (fulA p) k).y (startsF p (gS (fulA p) k).f p.ns.length) = (gS (sumI p p.ns.length) i).y := by
 classical
 have ho := ok_of h0
 have ha := fulPx_all ho
 obtain ⟨j, hj, hj1, ej⟩ := sumI_mem p.ns.length _ (gS_mem7 hi)
 have hm := gS_mem7 hk
 have e9 : fulA p = fulI (fulPx p) p.ns.length := by unfold fulA; rw [if_pos h0]
 rw [e9] at hm
 obtain ⟨j', hj', ej'⟩ := List.mem_map.1 hm
 obtain ⟨hl, hk1⟩ := startsI_mem.1 hj'
 rw [← e9] at ej'
 rw [← ej'] at hf ⊢
 rw [ej] at hf ⊢
 have hff : (gn p.ns j').f = (gn p.ns j).f := hf
 have e0 : j' = j := by
   have h1 := (ho.nd.start_iff (x := j) (s := j') hj hl hk1).2 hff
   have h2 := (ho.nd.start_iff (x := j) (s := j) hj hj hj1).2 rfl
   omega
 subst e0
 have hw := kindAt_in (sup_parts ho.sup).2.2.1 hj
 have a3 := kindAt_at hw.1
 have a4 := kindAt_at hw.2
 refine ⟨?_, ?_⟩
 · have h1 := part_eq ha (x := (kindAt p.ns (gn p.ns j').f 3).toNat) a3.1
   have e1 : (gn (fulPx p).ns (kindAt p.ns (gn p.ns j').f 3).toNat).f = (gn p.ns j').f := a3.2.1
   rw [e1] at h1
   exact h1
 · have h1 := part_eq ha (x := (kindAt p.ns (gn p.ns j').f 4).toNat) a4.1
   have e1 : (gn (fulPx p).ns (kindAt p.ns (gn p.ns j').f 4).toNat).f = (gn p.ns j').f := a4.2.1
   rw [e1] at h1
   exact h1
end If
end Go.Df
namespace Go.Proofs.YtooejoajojanjaaGreatDoor
open Go.RowKit Go.Df Go.Df.If
attribute [local go_sem ↓] Go.wp_at_zero Go.wp_at_succ
set_option maxRecDepth 100000 in
set_option maxHeartbeats 8000000 in
theorem starts35_any {p : Pb} (A1 A2 A3 A4 AP : Option Addr) (n1 c1 n2 c2 n3 c3 n4 c4 cP : Nat) (mn F f : Int) (w : World) (hnd : Nds w A1 n1 p.ns) (hP : Flw w AP n1 ((List.range n1).map (pairL p))) (hN : n1 ≤ 40) (hlen : ∀ x, (pairL p x).length ≤ 64) :
   Calls Tryz.prog 31 #[.agg #[.slice A1 n1 c1, .slice A2 n2 c2, .int .i64 mn, .int .i64 F, .slice A3 n3 c3, .slice A4 n4 c4], .slice AP n1 cP, .int .i64 f] w fun e w' => ∃ A k c, e = .returned (.slice A k c) ∧ Ints w' A k (startsF p f n1) ∧ k ≤ 2560 ∧ Below w.heap.size w w' := by
 obtain ⟨i1, hj, hy0, hy1, hy2⟩ := info_parts inti_info
 have HND := Lib.hid hnd
 have HP := Lib.hid hP
 have HLEN := Lib.hid hlen
 clear hnd hP hlen
 go_enter Tryz.func31, Tryz.ntmps31
 go_upto_region 1 with fail
 refine wp_named (fun W => ∃ b0, w.heap.size = b0 ∧ Blk W b0 [.slice A1 n1 c1, .slice A2 n2 c2, .int .i64 mn, .int .i64 F, .slice A3 n3 c3, .slice A4 n4 c4] ∧ Below w.heap.size w W) ⟨_, rfl, ?_, ?_⟩ ?_
 · exact kbn
 · go_grown
 rintro W ⟨b0, e0, B0, hB⟩
 rw [e0]
 have G0 : w.heap.size ≤ b0 := by omega
 clear e0
 have ⟨L0, C0, F0⟩ := B0
 have hkW : Kept [] w W := (Kept.refl _ _).call hB
 have HB0 := Lib.hid B0
 go_wp2_with fail
 go_loopw [7, 8] (fun s7 s8 wr => ∃ (n : Nat) (A : Option Addr) (k c : Nat), n ≤ n1 ∧ s8 = .int .i64 n ∧ s7 = .slice A k c ∧ Kept [] W wr ∧ Hid ((startsF p f n).length = k) ∧ Hid (wr.ownsRow W.heap.size 3 1 (.slice A k c) k ((startsF p f n).map (Value.int .i64)))) (fun _ s8 _ => n1 - (intOf s8).toNat)
 case atStart => exact ⟨0, none, 0, 0, Nat.zero_le _, rfl, rfl, Kept.refl _ _, Lib.hid (by rw [startsF_zero]; rfl), Lib.hid (by rw [startsF_zero]; exact World.ownsRow_nil _ _ _ _)⟩
 case round =>
 clear C0 F0
 obtain ⟨n, A, k, c, hn, rfl, rfl, hkr, HK, OWN⟩ := hrel
 have ⟨L0r, C0r, F0r⟩ := hkr.blk (by simp) HB0.out
 have hkwr : Kept [] w wr := keptTrans hkW hkr
 have hk9 : k ≤ n * 64 := by rw [← HK.out]; exact startsF_len HLEN.out f n
 by_cases hlt : n < n1
 case neg =>
   obtain rfl : n = n1 := by omega
   go_wp2_with fail
   go_ret
   obtain ⟨A', c', e9, hi9, -⟩ := Ints.of_own OWN.out
   injection e9 with e1 e2 e3
   subst e1
   exact ⟨A, k, c, rfl, hi9, by omega, hkwr.toBelow⟩
 have hn9 : (n : Int) < (n1 : Int) := by omega
 obtain ⟨b, o, rfl, hl, hc⟩ := HND.out.2 (by omega)
 obtain ⟨h1, h2, h3⟩ := hc n hlt
 obtain ⟨nf, nk, ni, en⟩ : ∃ nf nk ni, gn p.ns n = ⟨nf, nk, ni⟩ := ⟨_, _, _, rfl⟩
 rw [en] at h1 h2 h3
 have q1 := (hkwr.cell b _ hl (by simp)).trans h1
 have q2 := (hkwr.cell b _ hl (by simp)).trans h2
 have hlr : b < wr.heap.size := Nat.lt_of_lt_of_le hl hkwr.size
 have HEN := Lib.hid en
 clear hc h1 h2 h3 en
 by_cases e1 : nf = f
 case neg =>
   have z1 : (nf != f) = true := by simpa using e1
   have HS : Hid (startsF p f (n + 1) = startsF p f n) := Lib.hid (startsF_no (fun h => e1 (by have h9 := h.1; rw [HEN.out] at h9; exact h9)))
   clear e1
   go_wp2_with fail
   exact ⟨⟨n + 1, A, k, c, by omega, by go_num, rfl, hkr, by rw [HS.out]; exact HK, by rw [HS.out]; exact OWN⟩, by simp [intOf]; omega⟩
 subst e1
 by_cases e2 : nk = 1
 case neg =>
   have z2 : (nk != 1) = true := by simpa using e2
   have HS : Hid (startsF p nf (n + 1) = startsF p nf n) := Lib.hid (startsF_no (fun h => e2 (by have h9 := h.2; rw [HEN.out] at h9; exact h9)))
   clear e2
   go_wp2_with fail
   exact ⟨⟨n + 1, A, k, c, by omega, by go_num, rfl, hkr, by rw [HS.out]; exact HK, by rw [HS.out]; exact OWN⟩, by simp [intOf]; omega⟩
 subst e2
 obtain ⟨l, hl9⟩ : ∃ l, pairL p n = l := ⟨_, rfl⟩
 have HS : Hid (startsF p nf (n + 1) = startsF p nf n ++ (l.filter fun q => decide (q.i = q.o)).map fun q => q.i) := Lib.hid (by rw [← hl9]; exact startsF_yes ⟨by rw [HEN.out], by rw [HEN.out]⟩)
 obtain ⟨bP, oP, rfl, hlP, hcP⟩ := HP.out.2 (by omega)
 obtain ⟨Ai, ni9, ci, r0, hnc, hpr⟩ := hcP n hlt
 have eg : gf ((List.range n1).map (pairL p)) n = l := by rw [← hl9]; simp [gf, hlt]
 rw [eg] at hpr
 have HPR := Lib.hid hpr
 have HR0 := Lib.hid r0
 have hni : ni9 ≤ 64 := by rw [← hpr.1, ← hl9]; exact HLEN.out n
 have HLP := Lib.hid hlP
 clear hcP eg hpr hl9 r0 hlP
 go_wp2_with fail
 go_loopw [7, 9] (fun s7 s9 wz => ∃ (i : Nat) (A' : Option Addr) (k' c' : Nat), i ≤ ni9 ∧ s9 = .int .i64 i ∧ s7 = .slice A' k' c' ∧ Kept [] W wz ∧ Hid ((startsF p nf n ++ stI l i).length = k') ∧ Hid (wz.ownsRow W.heap.size 3 1 (.slice A' k' c') k' ((startsF p nf n ++ stI l i).map (Value.int .i64)))) (fun _ s9 _ => ni9 - (intOf s9).toNat)
 case atStart => exact ⟨0, A, k, c, Nat.zero_le _, rfl, rfl, hkr, by rw [stI_zero, List.append_nil]; exact HK, by rw [stI_zero, List.append_nil]; exact OWN⟩
 case round =>
 rename World => wz
 clear C0r F0r q1 q2
 obtain ⟨i, A', k', c', hi, rfl, rfl, hkz, HKZ, OWZ⟩ := hrel
 have ⟨L0z, C0z, F0z⟩ := hkz.blk (by simp) HB0.out
 have hkwz : Kept [] w wz := keptTrans hkW hkz
 have r0 := (hkwz.cell bP _ HLP.out (by simp)).trans HR0.out
 have hlPz : bP < wz.heap.size := Nat.lt_of_lt_of_le HLP.out hkwz.size
 have hk9' : k' ≤ n * 64 + i := by
   rw [← HKZ.out, List.length_append]
   have h8 := stI_len l i
   have h9 := HK.out
   omega
 by_cases hli : i < ni9
 case neg =>
   obtain rfl : i = ni9 := by omega
   have HAL : Hid (startsF p nf (n + 1) = startsF p nf n ++ stI l i) := Lib.hid (by rw [HS.out, stI_all l HPR.out.1])
   go_wp2_with fail
   exact ⟨⟨n + 1, A', k', c', by omega, by go_num, rfl, hkz, by rw [HAL.out]; exact HKZ, by rw [HAL.out]; exact OWZ⟩, by simp [intOf]; omega⟩
 have hi9 : (i : Int) < (ni9 : Int) := by omega
 obtain ⟨b2, o2, rfl, hl2, hc2⟩ := HPR.out.2 (by omega)
 obtain ⟨s1, s2⟩ := hc2 i hli
 have hil : i < l.length := by rw [HPR.out.1]; exact hli
 have HYES := Lib.hid (fun e => stI_yes hil e)
 have HNO := Lib.hid (fun e => stI_no hil e)
 obtain ⟨xi, xo, ex⟩ : ∃ xi xo, gp l i = ⟨xi, xo⟩ := ⟨_, _, rfl⟩
 rw [ex] at s1 s2 HYES HNO
 have t1 := (hkwz.cell b2 _ hl2 (by simp)).trans s1
 have t2 := (hkwz.cell b2 _ hl2 (by simp)).trans s2
 have hl2z : b2 < wz.heap.size := Nat.lt_of_lt_of_le hl2 hkwz.size
 clear hc2 s1 s2 ex
 by_cases e3 : xi = xo
 case neg =>
   have z3 : (xi == xo) = false := by simpa using e3
   have HS3 := Lib.hid (HNO.out e3)
   clear e3
   go_upto_region 9 with fail
   go_quiet (fail)
   go_wp2_with fail
   exact ⟨⟨i + 1, A', k', c', by omega, by go_num, rfl, hkz.drewN _, by rw [HS3.out]; exact HKZ, Lib.hid (by rw [HS3.out]; exact OWZ.out)⟩, by simp [intOf]; omega⟩
 subst e3
 have HS3 := Lib.hid (HYES.out rfl)
 have HAP : Hid ((startsF p nf n ++ stI l i).map (Value.int .i64) ++ [.int .i64 xi] = (startsF p nf n ++ stI l (i + 1)).map (Value.int .i64)) := Lib.hid (by rw [HS3.out, ← List.append_assoc, List.map_append (l₁ := startsF p nf n ++ stI l i)]; rfl)
 have HX : Hid (∀ y ∈ (Value.slice A' k' c').ownBlock.toList, W.heap.size ≤ y) := Lib.hid (fun y hy => own_ge OWZ.out (by simpa using hy))
 go_upto_region 9 with fail
 go_quiet (fail)
 have hWz : W.heap.size ≤ wz.heap.size := hkz.size
 go_wp2_with (at_builtin; refine wpList_append_rd _ rfl _ _ 31 rfl W.heap.size 3 i1 (.int .i64 0) 1 8 Tryz.underlying31 hj hy0 hy1 hy2 rfl (by decide) (.slice A' k' c') k' _ rfl (own_keptT (X := []) OWZ.out (((Kept.refl [] wz).drewN _).alloc _) (by simp)) (some ⟨wz.heap.size, 0, none⟩) 1 1 [.int .i64 xi] rfl (Rd.new1 _ _ _ _ rfl) (fun h => by cases h) (by intro u hu; simp at hu; subst hu; rfl) (k' + 1) rfl _ HAP.out (by unfold maxLen; omega) (by omega) (by simp; omega) ?_; intro A9 c9 w9 hown9 hk9 hat9; have HK9 := Lib.hid hk9; have HO9 := Lib.hid hown9; clear hown9 hk9 hat9)
 have hk99 : Kept [] W w9 := kept_fresh (keptTrans hkz (((Kept.refl [] wz).drewN _).alloc _)) HK9.out (fun y hy => HX.out y hy)
 exact ⟨⟨i + 1, A9, k' + 1, c9, by omega, by go_num, rfl, hk99, Lib.hid (by have h9 := HKZ.out; rw [List.length_append] at h9 ⊢; rw [HS3.out, List.length_append]; simp; omega), HO9⟩, by simp [intOf]; omega⟩
set_option maxRecDepth 100000 in
set_option maxHeartbeats 8000000 in
theorem only_any (A B : Option Addr) (n c m d : Nat) (l : List Pr) (a : List Int) (w : World) (hA : Prs w A n l) (hB : Ints w B m a) (hn : n ≤ 100000) (hm : m ≤ 100000) :
   Calls Tryz.prog 33 #[.slice A n c, .slice B m d] w fun e w' => ∃ A k c, e = .returned (.slice A k c) ∧ Prs w' A k (onlyF l a) ∧ k ≤ 100000 ∧ Below w.heap.size w w' := by
 obtain ⟨i0, hj, hy0, hy1, hy2⟩ := info_parts pairi_info
 have HA := Lib.hid hA
 have HB := Lib.hid hB
 clear hA hB
 go_enter Tryz.func33, Tryz.ntmps33
 go_wp2_with fail
 go_loopw [5, 6] (fun s5 s6 wr => ∃ (i : Nat) (Q : Option Addr) (k e : Nat), i ≤ n ∧ s6 = .int .i64 i ∧ s5 = .slice Q k e ∧ Kept [] w wr ∧ Hid ((onI l a i).length = k) ∧ Hid (wr.ownsRow w.heap.size 72 2 (.slice Q k e) k (prcells (onI l a i)))) (fun _ s6 _ => n - (intOf s6).toNat)
 case atStart => exact ⟨0, none, 0, 0, Nat.zero_le _, rfl, rfl, Kept.refl _ _, Lib.hid (by rw [onI_zero]; rfl), Lib.hid (by rw [onI_zero]; exact World.ownsRow_nil _ _ _ _)⟩
 case round =>
 obtain ⟨i, Q, k, e, hi, rfl, rfl, hkr, HK, OWN⟩ := hrel
 have hki : k ≤ i := by rw [← HK.out]; exact onI_len l a i
 by_cases hlt : i < n
 case neg =>
   obtain rfl : i = n := by omega
   go_wp2_with fail
   go_ret
   have h9 := Prs.own OWN.out HK.out
   rw [onI_all l a HA.out.1] at h9
   exact ⟨Q, k, e, rfl, h9.1, by omega, hkr.toBelow⟩
 have hi9 : (i : Int) < (n : Int) := by omega
 obtain ⟨b, o, rfl, hl, hc⟩ := HA.out.2 (by omega)
 obtain ⟨s1, s2⟩ := hc i hlt
 have hil : i < l.length := by rw [HA.out.1]; exact hlt
 have HYES := Lib.hid (fun e => onI_yes (a := a) hil e)
 have HNO := Lib.hid (fun e => onI_no (a := a) hil e)
 obtain ⟨xi, xo, ex⟩ : ∃ xi xo, gp l i = ⟨xi, xo⟩ := ⟨_, _, rfl⟩
 rw [ex] at s1 s2 HYES HNO
 have t1 := (hkr.cell b _ hl (by simp)).trans s1
 have t2 := (hkr.cell b _ hl (by simp)).trans s2
 have hlr : b < wr.heap.size := Nat.lt_of_lt_of_le hl hkr.size
 have HBR := Lib.hid (HB.out.kept hkr)
 clear hc s1 s2 ex
 by_cases e3 : xi ∈ a
 case neg =>
   have HZ : Hid (decide (xi ∈ a) = false) := Lib.hid (decide_eq_false e3)
   have HS3 := Lib.hid (HNO.out e3)
   clear e3
   go_wp2_with (go_at_call 66; refine (rhas_any B m d a xi _ HBR.out (by omega)).mono ?_; rw [HZ.out]; rintro e w3 ⟨rfl, rfl⟩)
   exact ⟨⟨i + 1, Q, k, e, by omega, by go_num, rfl, hkr, by rw [HS3.out]; exact HK, by rw [HS3.out]; exact OWN⟩, by simp [intOf]; omega⟩
 have HZ : Hid (decide (xi ∈ a) = true) := Lib.hid (decide_eq_true e3)
 have HS3 := Lib.hid (HYES.out e3)
 have HAP : Hid (prcells (onI l a i) ++ [.int .i64 xi, .int .i64 xo] = prcells (onI l a (i + 1))) := Lib.hid (by rw [HS3.out]; exact prcells_snoc _ ⟨xi, xo⟩)
 have hWz : w.heap.size ≤ wr.heap.size := hkr.size
 have HX : Hid (∀ y ∈ (Value.slice Q k e).ownBlock.toList, w.heap.size ≤ y) := Lib.hid (fun y hy => own_ge OWN.out (by simpa using hy))
 clear e3
 go_wp2_with (first | (go_at_call 66; refine (rhas_any B m d a xi _ HBR.out (by omega)).mono ?_; rw [HZ.out]; rintro e9 w3 ⟨rfl, ew⟩; subst ew) | (at_builtin; refine wpList_append_rd _ rfl _ _ 28 rfl w.heap.size 72 i0 (.agg #[.int .i64 0, .int .i64 0]) 2 16 Tryz.underlying28 hj hy0 hy1 hy2 rfl (by decide) (.slice Q k e) k _ rfl (own_keptT (X := []) OWN.out ((Kept.refl _ _).alloc _) (by simp)) (some ⟨wr.heap.size, 0, none⟩) 1 1 [.int .i64 xi, .int .i64 xo] rfl (new2T _ _ _ _ _ rfl) (fun h => by cases h) (by intro u hu; simp at hu; rcases hu with rfl | rfl <;> rfl) (k + 1) rfl _ HAP.out (by unfold maxLen; omega) (by omega) (by simp; omega) ?_; intro A9 c9 w9 hown9 hk9 hat9; have HK9 := Lib.hid hk9; have HO9 := Lib.hid hown9; clear hown9 hk9 hat9))
 have hk99 : Kept [] w w9 := kept_fresh (keptTrans hkr ((Kept.refl [] wr).alloc _)) HK9.out (fun y hy => HX.out y hy)
 exact ⟨⟨i + 1, A9, k + 1, c9, by omega, by go_num, rfl, hk99, Lib.hid (by rw [HS3.out, List.length_append, HK.out]; rfl), HO9⟩, by simp [intOf]; omega⟩
end Go.Proofs.YtooejoajojanjaaGreatDoor
