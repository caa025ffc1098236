/- Texts: Sm Ke. -/
import Derived.Test.YtooejoajojanjaaGreatDoorXSf27
import Derived.Test.YtooejoajojanjaaGreatDoorXSf07
namespace Go.Df.Sp
theorem super_nodes {ns : List Nd} {es : List Ed} {m e : Int} (h1 : ns.length ≤ 8192) (h2 : es.length ≤ 32768) (hn : nodesErr ns m = e) (h0 : e ≠ 0) : superErr ns es m = e := by
 unfold superErr
 rw [if_neg (by omega), hn, if_pos h0]
theorem fe_in (err : Nat → Int) (n : Nat) : ∀ k, fe err k n = 0 ∨ ∃ i, k ≤ i ∧ i < k + n ∧ fe err k n = err i := by
 induction n with
 | zero => intro k; exact .inl rfl
 | succ n ih =>
   intro k
   rw [fe]
   split
   · rcases ih (k + 1) with h | ⟨i, h1, h2, h3⟩
     · exact .inl h
     · exact .inr ⟨i, by omega, by omega, h3⟩
   · exact .inr ⟨k, by omega, by omega, rfl⟩
theorem starts_bad {ns : List Nd} {m : Int} (hn : ∀ x, x < ns.length → nodeErr ns x = 0) (h : ∃ j, j < ns.length ∧ cnt ns ns.length (gn ns j).f ≠ 3) : nodesErr ns m = 1 := by
 obtain ⟨j, hj, h3⟩ := h
 have h1 : wholeErr ns j = 1 := by rw [cnt_whole hn, if_neg h3]
 have h2 : fe (wholeErr ns) 0 ns.length = 1 := by
   rcases fe_in (wholeErr ns) ns.length 0 with h4 | ⟨i, _, _, h4⟩
   · have := fe_zero _ _ h4 j (by omega) (by omega)
     omega
   · have h5 : fe (wholeErr ns) 0 ns.length ≠ 0 := fun h6 => by
       have := fe_zero _ _ h6 j (by omega) (by omega)
       omega
     rw [h4] at h5 ⊢
     rw [cnt_whole hn] at h5 ⊢
     split
     · rename_i h7; rw [if_pos h7] at h5; exact absurd rfl h5
     · rfl
 unfold nodesErr
 rw [fe_ok ns.length 0 (fun i _ hi => hn i (by omega)), if_neg (by simp), h2, if_pos (by omega)]
theorem starts_ok {ns : List Nd} (hn : ∀ x, x < ns.length → nodeErr ns x = 0) (h : ∀ j, j < ns.length → cnt ns ns.length (gn ns j).f = 3) : ∀ x, x < ns.length → wholeErr ns x = 0 := fun x hx => by
 rw [cnt_whole hn, if_pos (h x hx)]
theorem node_kind {ns : List Nd} {j : Nat} (h : nodeErr ns j = 0) : 1 ≤ (gn ns j).k ∧ (gn ns j).k ≤ 4 := by
 unfold nodeErr at h
 split at h
 · cases h
 · omega
theorem field_ok {N : Nat} {ea eb ek ec : Int} (h : fieldErr N ea eb ek ec = 0) : 0 ≤ ea ∧ ea < N ∧ 0 ≤ eb ∧ eb < N ∧ 1 ≤ ek ∧ ek ≤ 5 ∧ (ek ≠ 1 → ek ≠ 5 → 0 ≤ ec ∧ ec < N) := by
 unfold fieldErr at h
 split at h
 · cases h
 · split at h
   · cases h
   · split at h
     · cases h
     · refine ⟨by omega, by omega, by omega, by omega, by omega, by omega, fun _ _ => by omega⟩
theorem match_is {ns : List Nd} {es : List Ed} (hn : ∀ x, x < ns.length → nodeErr ns x = 0) (h : ∀ j, j < ns.length → cnt ns ns.length (gn ns j).f = 3) {ea eb : Nat} {ek ec : Int} (ha : ea < ns.length) (h2 : 1 ≤ ek ∧ ek ≤ 5) :
   matchN ek ec ea (gn ns ea) (gn ns eb) (gn ns ec.toNat) (ent es es.length ec (lst ns ns.length (gn ns ea).f)) = fitsB ns es ⟨ea, eb, ek, ec⟩ := by
 have hw := starts_ok hn h ea ha
 have hs : ∃ i, i < ns.length ∧ (gn ns i).f = (gn ns ea).f ∧ (gn ns i).k = 1 := by
   refine Classical.byContradiction (fun hh => ?_)
   have : kindAt ns (gn ns ea).f 1 < 0 := kind_neg.mpr (fun j hj h5 => hh ⟨j, hj, h5⟩)
   unfold wholeErr at hw
   rw [if_pos (Or.inl this)] at hw
   cases hw
 rw [ent_calls hn hs, match_fits (node_kind (hn ea ha)) h2]
 rfl
end Go.Df.Sp
namespace Go.Proofs.YtooejoajojanjaaGreatDoor
open Go.RowKit Go.Df
attribute [local go_sem ↓] Go.wp_at_zero Go.wp_at_succ
set_option maxRecDepth 100000 in
set_option maxHeartbeats 8000000 in
theorem super_any (A1 A2 : Option Addr) (n1 c1 n2 c2 : Nat) (mn : Int) (ns : List Sp.Nd) (es : List Sp.Ed) (w : World) (hn : Nds w A1 n1 ns) (he : Eds w A2 n2 es)
   (hwn : ∀ j, j < n1 → (Lit.int .i64 (gn ns j).f).wf = true) (hwe : ∀ j, j < n2 → (Lit.int .i64 (ge es j).a).wf = true ∧ (Lit.int .i64 (ge es j).b).wf = true) :
   Calls Tryz.prog 85 #[.agg #[.slice A1 n1 c1, .slice A2 n2 c2, .int .i64 mn]] w fun e w' => e = .returned (.int .i64 (Sp.superErr ns es mn)) ∧ Below w.heap.size w w' := by
 have HN := Lib.hid hn
 have HL := Lib.hid hn.1
 have HE := Lib.hid he
 have HLe := Lib.hid he.1
 have HWN := Lib.hid hwn
 have HWE := Lib.hid hwe
 clear hn he hwn hwe
 by_cases t1 : 8192 < n1
 · have d1 : decide ((8192 : Int) < n1) = true := by simp; omega
   go_enter Tryz.func85, Tryz.ntmps85
   go_wp2_with fail
   go_ret
   exact ⟨ret_int (by unfold Sp.superErr; rw [HL.out, if_pos (by omega)]), by go_grown⟩
 have d1 : decide ((8192 : Int) < n1) = false := by simp; omega
 by_cases t2 : 32768 < n2
 · have d2 : decide ((32768 : Int) < n2) = true := by simp; omega
   go_enter Tryz.func85, Tryz.ntmps85
   go_wp2_with fail
   go_ret
   exact ⟨ret_int (by unfold Sp.superErr; rw [HLe.out, if_pos (by omega)]), by go_grown⟩
 have d2 : decide ((32768 : Int) < n2) = false := by simp; omega
 have h8 : Hid (ns.length ≤ 8192) := by show _ ≤ _; rw [HL.out]; omega
 have h9 : Hid (es.length ≤ 32768) := by show _ ≤ _; rw [HLe.out]; omega
 have hs : n1 ≤ 1000000 := by omega
 go_enter Tryz.func85, Tryz.ntmps85
 go_upto_region 1 with fail
 refine wp_named (fun W => ∃ b0, w.heap.size = b0 ∧ Blk W b0 [.slice A1 n1 c1, .slice A2 n2 c2, .int .i64 mn] ∧ Below w.heap.size w W) ⟨_, rfl, ?_, ?_⟩ ?_
 · exact kbn
 · go_grown
 rintro W ⟨b0, e0, B0, hB⟩
 rw [e0]
 have G0 : w.heap.size ≤ b0 := by omega
 clear e0
 have ⟨L0, C0, F0⟩ := B0
 have HW := Lib.hid (HN.out.later hB)
 have hmm := @run_makeMap Tryz.prog
 go_wp2_with fail
 go_loopw [26] (fun i wr => ∃ j : Nat, j ≤ n1 ∧ i = .int .i64 j ∧ Kept [] W wr ∧ Hid (∀ x, x < j → Sp.nodeErr ns x = 0)) (fun i _ => n1 - (intOf i).toNat)
 case atStart => exact ⟨0, Nat.zero_le _, rfl, Kept.refl _ _, Lib.hid (fun j hj => absurd hj (by omega))⟩
 case round =>
   obtain ⟨j, hj, rfl, hkr, hno⟩ := hrel
   have BR := hkr.blk (by simp) B0
   have ⟨LR, CR, FR⟩ := BR
   clear C0 F0
   by_cases hlt : j < n1
   · obtain ⟨b, o, rfl, hl, hc⟩ := (HW.out.kept hkr).2 (by omega)
     obtain ⟨h1, h2, h3⟩ := hc j hlt
     have HC := Lib.hid hc
     have LB := Lib.hid hl
     clear hc
     obtain ⟨nf, nk, ni, en⟩ : ∃ nf nk ni, gn ns j = ⟨nf, nk, ni⟩ := ⟨_, _, _, rfl⟩
     rw [en] at h1 h2 h3
     have HE := Lib.hid en
     clear en
     go_upto_region 6 with fail
     refine wp_named (fun V => ∃ g, wr.heap.size = g ∧ Blk V g [.int .i64 nf, .int .i64 nk, .int .i64 ni] ∧ Kept [] wr V) ⟨_, rfl, Blk.new _ _ _ _ rfl, (Kept.refl _ _).alloc _⟩ ?_
     rintro V ⟨g, eg, Bg, hkV⟩
     rw [eg]
     have hkw : Kept [] W V := keptTrans hkr hkV
     have BV := hkw.blk (by simp) B0
     have ⟨LV, CV, FV⟩ := BV
     have ⟨LG, CG, FG⟩ := Bg
     have hBV := hkw.below hB hB.size (by simp)
     clear CR FR h1 h2 h3 eg
     by_cases hk2 : nk = 2
     all_goals
       first
         | (have k1 : (nk == 2) = true := by simpa using hk2)
         | (have k1 : (nk == 2) = false := by simpa using hk2)
       first
         | (have k2 : (nk != 2) = false := by simpa using hk2)
         | (have k2 : (nk != 2) = true := by simpa using hk2)
       by_cases hi1 : ni = -1
       all_goals
         first
           | (have k3 : (ni != -1) = false := by simpa using hi1)
           | (have k3 : (ni != -1) = true := by simpa using hi1)
         have HK := Lib.hid hk2
         have HI := Lib.hid hi1
         clear hk2 hi1
         go_upto_region 10 with fail
         all_goals first
           | (go_ret; exact ⟨ret_int (Sp.super_nodes h8.out h9.out (Sp.nodes_node (m := mn) (e := 12) hno.out (by rw [HL.out]; exact hlt) (by unfold Sp.nodeErr; rw [HE.out]; dsimp only; rw [if_pos (by have := HK.out; have := HI.out; omega)]) (by omega)) (by omega)).symm, hBV⟩)
           | (go_ret; exact ⟨ret_int (Sp.super_nodes h8.out h9.out (Sp.nodes_node (m := mn) (e := 4) hno.out (by rw [HL.out]; exact hlt) (by unfold Sp.nodeErr; rw [HE.out]; dsimp only; rw [if_neg (by have := HK.out; have := HI.out; omega), if_pos (by have := HK.out; have := HI.out; omega)]) (by omega)) (by omega)).symm, hBV⟩)
           | skip
         all_goals
           have hz : Hid (Sp.nodeErr ns j = if 0 < j ∧ Sp.lessN (gn ns (j - 1)) ⟨nf, nk, ni⟩ = false then 13 else 0) := by
             show Sp.nodeErr ns j = _
             unfold Sp.nodeErr
             rw [HE.out]
             dsimp only
             rw [if_neg (by have := HK.out; have := HI.out; omega), if_neg (by have := HK.out; have := HI.out; omega)]
           have hno1 : Hid (Sp.nodeErr ns j = 0 → ∀ x, x < j + 1 → Sp.nodeErr ns x = 0) := fun h0 x hx => by
             rcases Nat.lt_or_ge x j with h9 | h9
             · exact hno.out x h9
             · obtain rfl : x = j := by omega
               exact h0
           by_cases hj0 : j = 0
           · have y1 : decide (0 < j) = false := by simp; omega
             have y2 : decide ((0 : Int) < (j : Int)) = false := by simp; omega
             have hfin : Hid (∀ x, x < j + 1 → Sp.nodeErr ns x = 0) := hno1.out (by rw [hz.out, if_neg (by omega)])
             clear hj0
             go_quiet (fail)
             go_wp2_with fail
             exact ⟨⟨j + 1, by omega, by go_num, hkw.drewN _, hfin⟩, by simp [intOf]; omega⟩
           · have y1 : decide (0 < j) = true := by simp; omega
             have y2 : decide ((0 : Int) < (j : Int)) = true := by simp; omega
             have y3 : IntKind.i64.wrap ((j : Int) - 1) = (j : Int) - 1 := IntWalk.i64_in _ (by omega)
             have y4 : (0 : Int) ≤ (j : Int) - 1 := by omega
             have y5 : ((j : Int) - 1).toNat = j - 1 := by omega
             have y6 : (j : Int) - 1 < (n1 : Int) := by omega
             have y7 : 0 < j := by omega
             have y8 : 1 ≤ j := by omega
             have y9 : (1 : Int) ≤ (j : Int) := by omega
             have y10 : j ≤ n1 := by omega
             have y11 : j < n1 + 1 := by omega
             have y12 : (j : Int) < (n1 : Int) + 1 := by omega
             have y13 : (j : Int) ≤ (n1 : Int) := by omega
             obtain ⟨p1, p2, p3⟩ := HC.out (j - 1) (by omega)
             obtain ⟨pf, pk, pi, ep⟩ : ∃ pf pk pi, gn ns (j - 1) = ⟨pf, pk, pi⟩ := ⟨_, _, _, rfl⟩
             rw [ep] at p1 p2 p3
             have q1 : V.cell? ⟨b, o + (j - 1) * 3, none⟩ = some (.int .i64 pf) := (hkV.cell b _ LB.out (by simp)).trans p1
             have q2 : V.cell? ⟨b, o + (j - 1) * 3 + 1, none⟩ = some (.int .i64 pk) := (hkV.cell b _ LB.out (by simp)).trans p2
             have q3 : V.cell? ⟨b, o + (j - 1) * 3 + 2, none⟩ = some (.int .i64 pi) := (hkV.cell b _ LB.out (by simp)).trans p3
             have hbV : b < V.heap.size := Nat.lt_of_lt_of_le LB.out hkV.size
             have HPe := Lib.hid ep
             clear p1 p2 p3 ep hj0
             go_cut [74] (fun s wx => s = .bool (!Sp.lessN ⟨pf, pk, pi⟩ ⟨nf, nk, ni⟩) ∧ Kept [] V wx)
             case first =>
               go_region_held3 (fun w' => SX0 V w') (exact kp0)
                 (first | (go_at_call 121; ((with_reducible refine (orderNode_any pf pk pi nf nk ni _).mono ?_)); rintro e w3 ⟨rfl, hb3⟩; obtain ⟨hc3, hf3, hg3⟩ := bcell hb3; have hz3 := hb3.size; try simp at hz3))
               all_goals
                 go_wp2_with fail
                 go_meet
                 refine ⟨congrArg Value.bool (Sp.ordN_ge _ _), ?_⟩
                 (exact kpt0)
             case rest =>
               obtain ⟨rfl, hkc⟩ := hcut
               have hkwc : Kept [] W wc := keptTrans hkw hkc
               have hBc := hkwc.below hB hB.size (by simp)
               by_cases hles : Sp.lessN ⟨pf, pk, pi⟩ ⟨nf, nk, ni⟩ = true
               · rw [hles]
                 have hfin : Hid (∀ x, x < j + 1 → Sp.nodeErr ns x = 0) := hno1.out (by rw [hz.out, HPe.out, hles, if_neg (by simp)])
                 clear hles
                 go_wp2_with fail
                 exact ⟨⟨j + 1, by omega, by go_num, hkwc, hfin⟩, by simp [intOf]; omega⟩
               · rw [Bool.not_eq_true] at hles
                 rw [hles]
                 have hfin : Hid (Sp.nodeErr ns j = 13) := by
                   show Sp.nodeErr ns j = 13
                   rw [hz.out, HPe.out, hles, if_pos ⟨by omega, rfl⟩]
                 clear hles
                 go_wp2_with fail
                 go_ret
                 exact ⟨ret_int (Sp.super_nodes h8.out h9.out (Sp.nodes_node (m := mn) hno.out (by rw [HL.out]; exact hlt) hfin.out (by omega)) (by omega)).symm, hBc⟩
   · obtain rfl : j = n1 := by omega
     have hall : Hid (∀ x, x < ns.length → Sp.nodeErr ns x = 0) := fun x hx => hno.out x (by rw [HL.out] at hx; exact hx)
     clear hno hlt
     go_wp2_with fail
     refine (starts_any _ _ _ _ _ _ _ ns _ (HW.out.kept hkr) hs HWN.out).mono ?_
     rintro e ws ⟨hbs, hcase⟩
     have hks : Kept [] W ws := hkr.call hbs
     have BS := hks.blk (by simp) B0
     have ⟨LS, CS, FS⟩ := BS
     have hBs := hks.below hB hB.size (by simp)
     have hWs := hkr.size
     clear CR FR
     rcases hcase with ⟨hbad, rfl⟩ | ⟨hgood, p, hp, rfl, Mp⟩
     · have hfin := Lib.hid (Sp.super_nodes h8.out h9.out (Sp.starts_bad (m := mn) hall.out (by rw [HL.out]; exact hbad)) (by omega))
       clear hbad
       go_wp2_with fail
       go_ret
       exact ⟨ret_int hfin.out.symm, hBs⟩
     have hok : Hid (∀ x, x < ns.length → Sp.cnt ns ns.length (gn ns x).f = 3) := by
       show ∀ x, _
       rw [HL.out]; exact hgood
     have hm : Hid (Sp.nodesErr ns mn = if mn < 0 ∨ (j : Int) ≤ mn ∨ (gn ns mn.toNat).k ≠ 1 then 14 else 0) := by
       show Sp.nodesErr ns mn = _
       rw [Sp.nodes_main hall.out (Sp.starts_ok hall.out hok.out), Sp.mainErr, HL.out]
     have MP := Lib.hid Mp
     have hpl := Mp.lt
     have hps : Hid (W.heap.size ≤ p) := by show _ ≤ _; omega
     clear hgood Mp hp
     by_cases m0 : mn < 0
     · have z1 : decide (mn < 0) = true := by simpa using m0
       go_wp2_with fail
       go_ret
       exact ⟨ret_int (Sp.super_nodes h8.out h9.out (show Sp.nodesErr ns mn = 14 by rw [hm.out, if_pos (by omega)]) (by omega)).symm, hBs⟩
     have z1 : decide (mn < 0) = false := by simpa using m0
     by_cases m1 : (j : Int) ≤ mn
     · have z2 : decide ((j : Int) ≤ mn) = true := by simpa using m1
       go_wp2_with fail
       go_ret
       exact ⟨ret_int (Sp.super_nodes h8.out h9.out (show Sp.nodesErr ns mn = 14 by rw [hm.out, if_pos (by omega)]) (by omega)).symm, hBs⟩
     have z2 : decide ((j : Int) ≤ mn) = false := by simpa using m1
     obtain ⟨mm, rfl⟩ := Int.eq_ofNat_of_zero_le (show 0 ≤ mn by omega)
     obtain ⟨b, o, rfl, hl, hc⟩ := (HW.out.kept hks).2 (by omega)
     obtain ⟨h1, h2, h3⟩ := hc mm (by omega)
     clear hc h1 h3
     have hmm2 : mm < j := by omega
     have z4 : decide (j ≤ mm) = false := by simp; omega
     rw [Int.toNat_natCast] at hm
     by_cases m2 : (gn ns mm).k = 1
     case neg =>
       have z3 : ((gn ns mm).k != 1) = true := by simp [m2]
       have M2 := Lib.hid m2
       clear m2
       go_wp2_with fail
       go_ret
       exact ⟨ret_int (Sp.super_nodes h8.out h9.out (show Sp.nodesErr ns mm = 14 by rw [hm.out, if_pos (.inr (.inr M2.out))]) (by omega)).symm, hBs⟩
     have z3 : ((gn ns mm).k != 1) = false := by simp [m2]
     have HNe : Hid (Sp.nodesErr ns mm = 0) := by
       show Sp.nodesErr ns mm = 0
       rw [hm.out, if_neg (by omega)]
     clear m2 hm
     go_upto_region 19 with fail
     refine wp_named (fun X => ∃ q, ws.heap.size = q ∧ MapV Tryz.prog 214 4 (.bool false) X q 0 (fun _ => .bool false) ∧ Kept [] ws X) ⟨_, rfl, MapV.made _ _ _ _ _ _ rfl, (Kept.refl _ _).alloc _⟩ ?_
     rintro X ⟨q, eq, Mq, hkX⟩
     rw [eq]
     have hql := Mq.lt
     have hpq : p ≠ q := by omega
     have hqW : W.heap.size ≤ q := by have := hks.size; omega
     have hb0q : b0 ≠ q := by omega
     have MPX := Lib.hid (MP.out.kept hkX (by simp))
     have MQ := Lib.hid Mq
     have hkWX : Kept [] W X := keptTrans hks hkX
     have BX := hkWX.blk (by simp) B0
     have ⟨LX, CX, FX⟩ := BX
     clear CS FS h2 hl eq Mq hkX MP
     go_wp2_with fail
     go_loopw [108] (fun i wr => ∃ k : Nat, k ≤ n2 ∧ i = .int .i64 k ∧ Kept [q] X wr ∧ Hid (MapV Tryz.prog 214 4 (.bool false) wr q k (mb (Sp.ent es k)))) (fun i _ => n2 - (intOf i).toNat)
     case atStart => exact ⟨0, Nat.zero_le _, rfl, Kept.refl _ _, Lib.hid (MQ.out.ext (fun key _ _ => by unfold mb; split <;> first | rfl | (unfold mbl; split <;> rfl)))⟩
     case round =>
       rename World => y
       obtain ⟨k, hk, rfl, hky, my⟩ := hrel
       have hkWy : Kept [] W y := hkWX.next hky (by simp; omega)
       have hBy := hkWy.below hB hB.size (by simp)
       by_cases hlt : k < n2
       · obtain ⟨b', o', rfl, hl, hc⟩ := (HE.out.later hBy).2 (by omega)
         obtain ⟨h1, h2, h3, h4⟩ := hc k hlt
         clear hc
         obtain ⟨wa, wb⟩ := HWE.out k hlt
         obtain ⟨ea, eb, ek, ec, en⟩ : ∃ ea eb ek ec, ge es k = ⟨ea, eb, ek, ec⟩ := ⟨_, _, _, _, rfl⟩
         rw [en] at h1 h2 h3 h4 wa wb
         have HEe := Lib.hid en
         obtain ⟨kl, hkl⟩ := Tryz.keyEdge ea eb wa wb
         have HK := Lib.hid hkl
         clear en hkl wa wb
         go_upto_region 22 with fail
         refine wp_named (fun V => ∃ g, y.heap.size = g ∧ Blk V g [.int .i64 ea, .int .i64 eb, .int .i64 ek, .int .i64 ec] ∧ Kept [] y V) ⟨_, rfl, Blk.new _ _ _ _ rfl, (Kept.refl _ _).alloc _⟩ ?_
         rintro V ⟨g, eg, Bg, hkV⟩
         rw [eg]
         have ⟨LG, CG, FG⟩ := Bg
         have myV := Lib.hid (my.out.kept hkV (by simp))
         have hkXV : Kept [q] X V := hky.next hkV (by simp)
         have hkWV : Kept [] W V := keptTrans hkWy hkV
         clear h1 h2 h3 h4 eg my
         by_cases e2 : ek = 2
         · have e2' : (ek == 2) = true := by simpa using e2
           have HG1 := Lib.hid (show mb (Sp.ent es (k + 1)) (.agg #[.int .i64 ea, .int .i64 eb]) = .bool true from congrArg Lit.bool (by rw [Sp.ent, HEe.out]; simp [e2]))
           have HG2 := Lib.hid (mb_put (g := Sp.ent es k) (g' := Sp.ent es (k + 1)) (a := ea) (b := eb) (fun x z hx => by rw [Sp.ent, HEe.out, if_neg (fun hh => hx ⟨hh.2.1.symm, hh.2.2.symm⟩)]))
           clear e2
           go_wp2_with (first
             | (at_mapUpdate; refine wpList_store_map _ rfl _ _ _ 212 rfl 214 4 Tryz.lawEdge Tryz.mapEB (.bool false) q k _ rfl myV.out (by unfold maxLen; omega) (.agg #[.int .i64 ea, .int .i64 eb]) (.bool true) _ _ rfl rfl HK.out (plainElem_bool Tryz.undBool true) (mb (Sp.ent es (k + 1))) HG1.out HG2.out ?_; intro w1 M1u hs1; have M1 := Lib.hid M1u; clear M1u)
             | go_in)
           go_roundw
           case rel => exact ⟨k + 1, by omega, by go_num, hkXV.next hs1 (by simp), M1⟩
           case measure => simp [intOf]; omega
         · have e2' : (ek == 2) = false := by simpa using e2
           have HG := Lib.hid (show mb (Sp.ent es k) = mb (Sp.ent es (k + 1)) from congrArg mb (funext (fun x => funext (fun z => by rw [Sp.ent, HEe.out, if_neg (fun hh => e2 hh.1)]))))
           clear e2
           go_wp2_with fail
           exact ⟨⟨k + 1, by omega, by go_num, hkXV, Lib.hid (HG.out ▸ myV.out.mono (Nat.le_succ k))⟩, by simp [intOf]; omega⟩
       · obtain rfl : k = n2 := by omega
         clear hlt
         have BY := hkWy.blk (by simp) B0
         have ⟨LY, CY, FY⟩ := BY
         have mpy := Lib.hid (MPX.out.kept hky (by simp; omega))
         clear CX FX
         go_wp2_with fail
         go_loopw [125] (fun i wz => ∃ x : Nat, x ≤ k ∧ i = .int .i64 x ∧ Kept [] y wz ∧ Hid (∀ z, z < x → Sp.edgeErr ns es z = 0)) (fun i _ => k - (intOf i).toNat)
         case atStart => exact ⟨0, Nat.zero_le _, rfl, Kept.refl _ _, Lib.hid (fun z hz => absurd hz (by omega))⟩
         case round =>
           rename World => wr
           obtain ⟨x, hx, rfl, hkr2, hno⟩ := hrel
           have hkWr : Kept [] W wr := keptTrans hkWy hkr2
           have hBr := hkWr.below hB hB.size (by simp)
           have BR := hkWr.blk (by simp) B0
           have ⟨LR2, CR, FR⟩ := BR
           clear CY FY
           by_cases hlt : x < k
           case neg =>
             go_wp2_with fail
             go_ret
             exact ⟨ret_int (Sp.super_ok h8.out h9.out HNe.out (fun z hz => hno.out z (by rw [HLe.out] at hz; omega))).symm, hBr⟩
           obtain ⟨b', o', rfl, hl, hc⟩ := (HE.out.later hBr).2 (by omega)
           obtain ⟨h1, h2, h3, h4⟩ := hc x hlt
           have HC := Lib.hid hc
           have LB := Lib.hid hl
           clear hc
           obtain ⟨ea, eb, ek, ec, en⟩ : ∃ ea eb ek ec, ge es x = ⟨ea, eb, ek, ec⟩ := ⟨_, _, _, _, rfl⟩
           rw [en] at h1 h2 h3 h4
           have HEe := Lib.hid en
           clear en
           go_upto_region 28 with fail
           refine wp_named (fun V => ∃ g, wr.heap.size = g ∧ Blk V g [.int .i64 ea, .int .i64 eb, .int .i64 ek, .int .i64 ec] ∧ Kept [] wr V) ⟨_, rfl, Blk.new _ _ _ _ rfl, (Kept.refl _ _).alloc _⟩ ?_
           rintro V ⟨g, eg, Bg, hkV⟩
           rw [eg]
           have hkWV : Kept [] W V := keptTrans hkWr hkV
           have hkyV : Kept [] y V := keptTrans hkr2 hkV
           have BV := hkWV.blk (by simp) B0
           have ⟨LV, CV, FV⟩ := BV
           have ⟨LG, CG, FG⟩ := Bg
           clear CR FR h1 h2 h3 h4 eg
           have hbad : Hid (∀ e, Sp.edgeErr ns es x = e → e ≠ 0 → Sp.superErr ns es mm = e) := fun e h1 h2 => Sp.super_edge h8.out h9.out HNe.out hno.out (by rw [HLe.out]; exact hlt) h1 h2
           have hstep : Hid (Sp.edgeErr ns es x = 0 → ∀ z, z < x + 1 → Sp.edgeErr ns es z = 0) := fun h0 z hz => by
             rcases Nat.lt_or_ge z x with h9 | h9
             · exact hno.out z h9
             · obtain rfl : z = x := by omega
               exact h0
           obtain ⟨fr, hfr⟩ : ∃ fr, Sp.fieldErr j ea eb ek ec = fr := ⟨_, rfl⟩
           have HEr : Hid (Sp.edgeErr ns es x = (if fr ≠ 0 then fr else if 0 < x ∧ Sp.lessE (ge es (x - 1)) ⟨ea, eb, ek, ec⟩ = false then 13 else if Sp.fitsB ns es ⟨ea, eb, ek, ec⟩ = false then 20 else 0)) := by
             show Sp.edgeErr ns es x = _
             rw [Sp.edge_field, HEe.out, HL.out, hfr]
           go_wp2_with fail
           refine (check_any _ _ _ _ _ _ _ ea eb ek ec _).mono ?_
           rintro e w5 ⟨rfl, hb5⟩
           rw [hfr]
           have hkV5 : Kept [] V w5 := (Kept.refl _ _).call hb5
           have hkW5 : Kept [] W w5 := keptTrans hkWV hkV5
           have hky5 : Kept [] y w5 := keptTrans hkyV hkV5
           have hB5 := hkW5.below hB hB.size (by simp)
           have B5 := hkW5.blk (by simp) B0
           have ⟨L5, C5, F5⟩ := B5
           have G5 := hkV5.blk (by simp) Bg
           have ⟨LG5, CG5, FG5⟩ := G5
           clear CV FV CG FG
           by_cases hf0 : fr = 0
           case neg =>
             have hf0' : (fr != 0) = true := by simpa using hf0
             have hE := Lib.hid (hbad.out fr (by rw [HEr.out, if_pos hf0]) hf0)
             clear hf0 hfr
             go_wp2_with fail
             go_ret
             exact ⟨ret_int hE.out.symm, hB5⟩
           subst hf0
           obtain ⟨v1, v2, v3, v4, v5, v6, v7⟩ := Sp.field_ok hfr
           have HC2 := Lib.hid v7
           have HEy : Hid (Sp.edgeErr ns es x = (if 0 < x ∧ Sp.lessE (ge es (x - 1)) ⟨ea, eb, ek, ec⟩ = false then 13 else if Sp.fitsB ns es ⟨ea, eb, ek, ec⟩ = false then 20 else 0)) := by
             show Sp.edgeErr ns es x = _
             rw [HEr.out, if_neg (by simp)]
           clear hfr HEr v7
           obtain ⟨na, rfl⟩ := Int.eq_ofNat_of_zero_le v1
           obtain ⟨nb, rfl⟩ := Int.eq_ofNat_of_zero_le v3
           have HMT : Hid (Sp.matchN ek ec na (gn ns na) (gn ns nb) (gn ns ec.toNat) (Sp.ent es k ec (Sp.lst ns j (gn ns na).f)) = Sp.fitsB ns es ⟨na, nb, ek, ec⟩) := by
             show Sp.matchN _ _ _ _ _ _ _ = _
             have := Sp.match_is (es := es) hall.out hok.out (ea := na) (eb := nb) (ek := ek) (ec := ec) (by rw [HL.out]; omega) ⟨v5, v6⟩
             rw [HL.out, HLe.out] at this
             exact this
           have HST : Hid (∀ z, 0 ≤ Sp.lst ns j z ∧ Sp.lst ns j z ≤ 1000000) := fun z => by have := Sp.lst_le ns z j; omega
           have hna : na < j := by omega
           have hnb : nb < j := by omega
           clear v1 v2 v3 v4
           by_cases hx0 : x = 0
           · have y1 : decide (0 < x) = false := by simp; omega
             have y2 : decide ((0 : Int) < (x : Int)) = false := by simp; omega
             have HEz : Hid (Sp.edgeErr ns es x = (if Sp.fitsB ns es ⟨na, nb, ek, ec⟩ = false then 20 else 0)) := by
               show Sp.edgeErr ns es x = _
               rw [HEy.out, if_neg (by omega)]
             clear hx0
             go_upto_region 31 with fail
             go_quiet (fail)
             go_wp2_with fail
             refine (matches_any _ _ _ _ _ _ _ p q j k na nb ek ec ns (Sp.lst ns j) (Sp.ent es k) _ (HN.out.later ((hkW5.drewN _).below hB hB.size (by simp))) hs hna hnb (fun a1 a2 _ => HC2.out a1 a2) HWN.out HST.out (mpy.out.kept (hky5.drewN _) (by simp)) (my.out.kept (hky5.drewN _) (by simp))).mono ?_
             rintro e w6 ⟨rfl, hb6⟩
             rw [HMT.out]
             have hkW6 : Kept [] W w6 := (hkW5.drewN _).call hb6
             have hky6 : Kept [] y w6 := (hky5.drewN _).call hb6
             have hB6 := hkW6.below hB hB.size (by simp)
             by_cases hfi : Sp.fitsB ns es ⟨na, nb, ek, ec⟩ = true
             · rw [hfi]
               have hfin := Lib.hid (hstep.out (by rw [HEz.out, hfi]; rfl))
               clear hfi
               go_wp2_with fail
               go_roundw
               case rel => exact ⟨x + 1, by omega, by go_num, hky6, hfin⟩
               case measure => simp [intOf]; omega
             · rw [Bool.not_eq_true] at hfi
               rw [hfi]
               have hE : Hid (Sp.superErr ns es mm = 20) := Lib.hid (hbad.out 20 (by rw [HEz.out, hfi]; rfl) (by omega))
               clear hfi
               go_wp2_with fail
               go_ret
               exact ⟨ret_int hE.out.symm, hB6⟩
           · have y1 : decide (0 < x) = true := by simp; omega
             have y2 : decide ((0 : Int) < (x : Int)) = true := by simp; omega
             have y3 : IntKind.i64.wrap ((x : Int) - 1) = (x : Int) - 1 := IntWalk.i64_in _ (by omega)
             have y4 : (0 : Int) ≤ (x : Int) - 1 := by omega
             have y5 : ((x : Int) - 1).toNat = x - 1 := by omega
             have y6 : (x : Int) - 1 < (k : Int) := by omega
             have y7 : 0 < x := by omega
             have y8 : 1 ≤ x := by omega
             have y9 : (1 : Int) ≤ (x : Int) := by omega
             have y10 : x ≤ k := by omega
             have y11 : x < k + 1 := by omega
             have y12 : (x : Int) < (k : Int) + 1 := by omega
             have y13 : (x : Int) ≤ (k : Int) := by omega
             obtain ⟨p1, p2, p3, p4⟩ := HC.out (x - 1) (by omega)
             obtain ⟨pa, pb, pk, pc, ep⟩ : ∃ pa pb pk pc, ge es (x - 1) = ⟨pa, pb, pk, pc⟩ := ⟨_, _, _, _, rfl⟩
             rw [ep] at p1 p2 p3 p4
             have hkr5 : Kept [] wr w5 := keptTrans hkV hkV5
             have q1 : w5.cell? ⟨b', o' + (x - 1) * 4, none⟩ = some (.int .i64 pa) := (hkr5.cell b' _ LB.out (by simp)).trans p1
             have q2 : w5.cell? ⟨b', o' + (x - 1) * 4 + 1, none⟩ = some (.int .i64 pb) := (hkr5.cell b' _ LB.out (by simp)).trans p2
             have q3 : w5.cell? ⟨b', o' + (x - 1) * 4 + 2, none⟩ = some (.int .i64 pk) := (hkr5.cell b' _ LB.out (by simp)).trans p3
             have q4 : w5.cell? ⟨b', o' + (x - 1) * 4 + 3, none⟩ = some (.int .i64 pc) := (hkr5.cell b' _ LB.out (by simp)).trans p4
             have hbV : b' < w5.heap.size := Nat.lt_of_lt_of_le LB.out hkr5.size
             have HPe := Lib.hid ep
             clear p1 p2 p3 p4 ep hx0
             have HEx : Hid (Sp.edgeErr ns es x = (if Sp.lessE ⟨pa, pb, pk, pc⟩ ⟨na, nb, ek, ec⟩ = false then 13 else if Sp.fitsB ns es ⟨na, nb, ek, ec⟩ = false then 20 else 0)) := by
               show Sp.edgeErr ns es x = _
               rw [HEy.out, HPe.out]
               simp [y7]
             go_upto_region 31 with fail
             go_cut [148] (fun s wx => s = .bool (!Sp.lessE ⟨pa, pb, pk, pc⟩ ⟨na, nb, ek, ec⟩) ∧ Kept [] w5 wx)
             case first =>
               go_region_held3 (fun w' => SX0 w5 w') (exact kp0)
                 (first | (go_at_call 124; ((with_reducible refine (orderEdge_any pa pb pk pc na nb ek ec _).mono ?_)); rintro e w3 ⟨rfl, hb3⟩; obtain ⟨hc3, hf3, hg3⟩ := bcell hb3; have hz3 := hb3.size; try simp at hz3))
               all_goals
                 go_wp2_with fail
                 go_meet
                 refine ⟨congrArg Value.bool (Sp.ordE_ge _ _), ?_⟩
                 (exact kpt0)
             case rest =>
               obtain ⟨rfl, hkc⟩ := hcut
               have hkWc : Kept [] W wc := keptTrans hkW5 hkc
               have hkyc : Kept [] y wc := keptTrans hky5 hkc
               have hBc := hkWc.below hB hB.size (by simp)
               have BC := hkc.blk (by simp) G5
               have ⟨LC, CC, FC⟩ := BC
               have BD := hkc.blk (by simp) B5
               have ⟨LD, CD, FD⟩ := BD
               clear CG5 FG5 C5 F5 q1 q2 q3 q4
               by_cases hles : Sp.lessE ⟨pa, pb, pk, pc⟩ ⟨na, nb, ek, ec⟩ = true
               · rw [hles]
                 have HEz : Hid (Sp.edgeErr ns es x = (if Sp.fitsB ns es ⟨na, nb, ek, ec⟩ = false then 20 else 0)) := by
                   show Sp.edgeErr ns es x = _
                   rw [HEx.out, hles, if_neg (by simp)]
                 clear hles
                 go_wp2_with fail
                 refine (matches_any _ _ _ _ _ _ _ p q j k na nb ek ec ns (Sp.lst ns j) (Sp.ent es k) _ (HN.out.later ((hkWc).below hB hB.size (by simp))) hs hna hnb (fun a1 a2 _ => HC2.out a1 a2) HWN.out HST.out (mpy.out.kept (hkyc) (by simp)) (my.out.kept (hkyc) (by simp))).mono ?_
                 rintro e w6 ⟨rfl, hb6⟩
                 rw [HMT.out]
                 have hkW6 : Kept [] W w6 := (hkWc).call hb6
                 have hky6 : Kept [] y w6 := (hkyc).call hb6
                 have hB6 := hkW6.below hB hB.size (by simp)
                 by_cases hfi : Sp.fitsB ns es ⟨na, nb, ek, ec⟩ = true
                 · rw [hfi]
                   have hfin := Lib.hid (hstep.out (by rw [HEz.out, hfi]; rfl))
                   clear hfi
                   go_wp2_with fail
                   go_roundw
                   case rel => exact ⟨x + 1, by omega, by go_num, hky6, hfin⟩
                   case measure => simp [intOf]; omega
                 · rw [Bool.not_eq_true] at hfi
                   rw [hfi]
                   have hE : Hid (Sp.superErr ns es mm = 20) := Lib.hid (hbad.out 20 (by rw [HEz.out, hfi]; rfl) (by omega))
                   clear hfi
                   go_wp2_with fail
                   go_ret
                   exact ⟨ret_int hE.out.symm, hB6⟩
               · rw [Bool.not_eq_true] at hles
                 rw [hles]
                 have hE : Hid (Sp.superErr ns es mm = 13) := Lib.hid (hbad.out 13 (by rw [HEx.out, hles]; rfl) (by omega))
                 clear hles
                 go_wp2_with fail
                 go_ret
                 exact ⟨ret_int hE.out.symm, hBc⟩
end Go.Proofs.YtooejoajojanjaaGreatDoor
namespace Go.Df
open Go.RowKit
theorem ints_two (w : World) (x y : Int) (t : TypeId) (b : Nat) (hb : b = w.heap.size) : Ints (w.alloc (.cells #[.int .i64 x, .int .i64 y] t)) (some ⟨b, 0, none⟩) 2 [x, y] := by
 subst hb
 refine ⟨rfl, fun _ => ⟨_, _, rfl, by simp, fun i hi => ?_⟩⟩
 rw [World.cell?_alloc_new, Nat.zero_add]
 match i, hi with
 | 0, _ => rfl
 | 1, _ => rfl
end Go.Df
namespace Go.Proofs.YtooejoajojanjaaGreatDoor
open Go.RowKit Go.Df Go.Df.If
attribute [local go_sem ↓] Go.wp_at_zero Go.wp_at_succ
set_option maxHeartbeats 1000000 in
theorem fcompare_any (a b c d : Int) (w : World) :
   Calls Tryz.prog 126 #[.agg #[.int .i64 a, .int .i64 b], .agg #[.int .i64 c, .int .i64 d]] w fun e w' => e = .returned (.int .i64 (Sp.orL [Sp.cmpI a c, Sp.cmpI b d])) ∧ Below w.heap.size w w' := by
 go_enter Tryz.func126, Tryz.ntmps126
 go_upto_region 1 with fail
 refine wp_named (fun W => ∃ b0 b1, w.heap.size = b0 ∧ w.heap.size + 1 = b1 ∧ Blk W b0 [.int .i64 a, .int .i64 b] ∧ Blk W b1 [.int .i64 c, .int .i64 d] ∧ Below w.heap.size w W) ⟨_, _, rfl, rfl, ?_, ?_, ?_⟩ ?_
 · exact (Blk.new _ _ _ _ (by first | rfl | simp)).alloc _
 · exact kbn
 · go_grown
 rintro W ⟨b0, b1, e0, e1, B0, B1, hB⟩
 rw [e1, e0]
 have G0 : w.heap.size ≤ b0 := by omega
 have n01 : b0 ≠ b1 := by omega
 have G1 : w.heap.size ≤ b1 := by omega
 have n10 : b1 ≠ b0 := by omega
 clear e0 e1
 have ⟨L0, C0, F0⟩ := B0
 have ⟨L1, C1, F1⟩ := B1
 go_region_held3 (fun w' => SX0 W w') (exact kp0)
   (first | (go_at_call 68; refine (compare_any _ _ _).mono ?_; rintro e w1 ⟨rfl, rfl⟩) | (go_at_call 67; refine (or_any _ _ _ [Sp.cmpI a c, Sp.cmpI b d] _ (by first | exact ints_two _ _ _ _ _ (by first | rfl | simp) | exact Ints.drew (ints_two _ _ _ _ _ (by first | rfl | simp))) (by omega) (by omega)).mono ?_; rintro e w2 ⟨rfl, rfl⟩))
 all_goals
   go_wp2_with fail
   go_ret
   refine ⟨rfl, Kept.below (X := []) hB hB.size (by simp) ?_⟩
   (exact kpt0)
set_option maxHeartbeats 1000000 in
theorem scompare_any (a b c d : Int) (w : World) :
   Calls Tryz.prog 87 #[.agg #[.int .i64 a, .int .i64 b], .agg #[.int .i64 c, .int .i64 d]] w fun e w' => e = .returned (.int .i64 (Sp.orL [Sp.cmpI a c, Sp.cmpI b d])) ∧ Below w.heap.size w w' := by
 go_enter Tryz.func87, Tryz.ntmps87
 go_upto_region 1 with fail
 refine wp_named (fun W => ∃ b0 b1, w.heap.size = b0 ∧ w.heap.size + 1 = b1 ∧ Blk W b0 [.int .i64 a, .int .i64 b] ∧ Blk W b1 [.int .i64 c, .int .i64 d] ∧ Below w.heap.size w W) ⟨_, _, rfl, rfl, ?_, ?_, ?_⟩ ?_
 · exact (Blk.new _ _ _ _ (by first | rfl | simp)).alloc _
 · exact kbn
 · go_grown
 rintro W ⟨b0, b1, e0, e1, B0, B1, hB⟩
 rw [e1, e0]
 have G0 : w.heap.size ≤ b0 := by omega
 have n01 : b0 ≠ b1 := by omega
 have G1 : w.heap.size ≤ b1 := by omega
 have n10 : b1 ≠ b0 := by omega
 clear e0 e1
 have ⟨L0, C0, F0⟩ := B0
 have ⟨L1, C1, F1⟩ := B1
 go_region_held3 (fun w' => SX0 W w') (exact kp0)
   (first | (go_at_call 68; refine (compare_any _ _ _).mono ?_; rintro e w1 ⟨rfl, rfl⟩) | (go_at_call 67; refine (or_any _ _ _ [Sp.cmpI a c, Sp.cmpI b d] _ (by first | exact ints_two _ _ _ _ _ (by first | rfl | simp) | exact Ints.drew (ints_two _ _ _ _ _ (by first | rfl | simp))) (by omega) (by omega)).mono ?_; rintro e w2 ⟨rfl, rfl⟩))
 all_goals
   go_wp2_with fail
   go_ret
   refine ⟨rfl, Kept.below (X := []) hB hB.size (by simp) ?_⟩
   (exact kpt0)
set_option maxRecDepth 100000 in
set_option maxHeartbeats 8000000 in
theorem fcheck_any (A : Option Addr) (n c : Nat) (F : Int) (l : List Pr) (w : World) (hp : Prs w A n l) :
   Calls Tryz.prog 86 #[.slice A n c, .int .i64 F] w fun e w' => e = .returned (.int .i64 (flErr F l)) ∧ Below w.heap.size w w' := by
 have HP := Lib.hid hp
 have HL := Lib.hid hp.1
 clear hp
 by_cases f0 : F < 1
 · have z : decide (F < 1) = true := by simpa using f0
   have hE : Hid (flErr F l = 4) := by show _ = _; unfold flErr; rw [if_pos (by omega)]
   go_enter Tryz.func86, Tryz.ntmps86
   go_wp2_with fail
   go_ret
   exact ⟨ret_int hE.out.symm, Below.refl _ _⟩
 have zf0 : decide (F < 1) = false := by simpa using f0
 by_cases f1 : 1024 < F
 · have z : decide (1024 < F) = true := by simpa using f1
   have hE : Hid (flErr F l = 4) := by show _ = _; unfold flErr; rw [if_pos (by omega)]
   go_enter Tryz.func86, Tryz.ntmps86
   go_wp2_with fail
   go_ret
   exact ⟨ret_int hE.out.symm, Below.refl _ _⟩
 have zf1 : decide (1024 < F) = false := by simpa using f1
 by_cases t1 : 8192 < n
 · have d1 : decide ((8192 : Int) < n) = true := by simp; omega
   have hE : Hid (flErr F l = 3) := by show _ = _; unfold flErr; rw [if_neg (by omega), HL.out, if_pos (by omega)]
   go_enter Tryz.func86, Tryz.ntmps86
   go_wp2_with fail
   go_ret
   exact ⟨ret_int hE.out.symm, Below.refl _ _⟩
 have d1 : decide ((8192 : Int) < n) = false := by simp; omega
 have HF1 : Hid (1 ≤ F) := by show _ ≤ _; omega
 have HF2 : Hid (F ≤ 1024) := by show _ ≤ _; omega
 have h8 : Hid (l.length ≤ 8192) := by show _ ≤ _; rw [HL.out]; omega
 have hn8 : n ≤ 8192 := by omega
 clear f0 f1 t1
 go_enter Tryz.func86, Tryz.ntmps86
 go_wp2_with fail
 go_loopw [18] (fun i wr => ∃ j : Nat, j ≤ n ∧ i = .int .i64 j ∧ Kept [] w wr ∧ Hid (∀ x, x < j → prErr F l x = 0)) (fun i _ => n - (intOf i).toNat)
 case atStart => exact ⟨0, Nat.zero_le _, rfl, Kept.refl _ _, Lib.hid (fun j hj => absurd hj (by omega))⟩
 case round =>
   obtain ⟨j, hj, rfl, hkr, hno⟩ := hrel
   have hBr := hkr.toBelow
   by_cases hlt : j < n
   · obtain ⟨b, o, rfl, hl, hc⟩ := (HP.out.later hBr).2 (by omega)
     obtain ⟨h1, h2⟩ := hc j hlt
     have HC := Lib.hid hc
     have LB := Lib.hid hl
     clear hc
     obtain ⟨xi, xo, en⟩ : ∃ xi xo, gp l j = ⟨xi, xo⟩ := ⟨_, _, rfl⟩
     rw [en] at h1 h2
     have HE := Lib.hid en
     clear en
     go_upto_region 8 with fail
     refine wp_named (fun V => ∃ g, wr.heap.size = g ∧ Blk V g [.int .i64 xi, .int .i64 xo] ∧ Kept [] wr V) ⟨_, rfl, Blk.new _ _ _ _ rfl, (Kept.refl _ _).alloc _⟩ ?_
     rintro V ⟨g, eg, Bg, hkV⟩
     rw [eg]
     have hkw : Kept [] w V := keptTrans hkr hkV
     have ⟨LG, CG, FG⟩ := Bg
     have hBV := hkw.toBelow
     clear h1 h2 eg
     have hbad : Hid (∀ e, prErr F l j = e → e ≠ 0 → flErr F l = e) := fun e h1 h2 => fl_hit HF1.out HF2.out h8.out hno.out (by rw [HL.out]; exact hlt) h1 h2
     have hstep : Hid (prErr F l j = 0 → ∀ x, x < j + 1 → prErr F l x = 0) := fun h0 x hx => by
       rcases Nat.lt_or_ge x j with h9 | h9
       · exact hno.out x h9
       · obtain rfl : x = j := by omega
         exact h0
     have HEr : Hid (prErr F l j = if xi < 0 ∨ F ≤ xi ∨ xo < 0 ∨ F ≤ xo then 4 else if 0 < j ∧ lessR (gp l (j - 1)) ⟨xi, xo⟩ = false then 13 else 0) := by
       show _ = _
       unfold prErr
       rw [HE.out]
     by_cases r0 : xi < 0
     · have z : decide (xi < 0) = true := by simpa using r0
       have hE := Lib.hid (hbad.out 4 (by rw [HEr.out, if_pos (by omega)]) (by omega))
       go_wp2_with fail
       go_ret
       exact ⟨ret_int hE.out.symm, hBV⟩
     have z0 : decide (xi < 0) = false := by simpa using r0
     by_cases r1 : F ≤ xi
     · have z : decide (F ≤ xi) = true := by simpa using r1
       have hE := Lib.hid (hbad.out 4 (by rw [HEr.out, if_pos (by omega)]) (by omega))
       go_wp2_with fail
       go_ret
       exact ⟨ret_int hE.out.symm, hBV⟩
     have z1 : decide (F ≤ xi) = false := by simpa using r1
     by_cases r2 : xo < 0
     · have z : decide (xo < 0) = true := by simpa using r2
       have hE := Lib.hid (hbad.out 4 (by rw [HEr.out, if_pos (by omega)]) (by omega))
       go_wp2_with fail
       go_ret
       exact ⟨ret_int hE.out.symm, hBV⟩
     have z2 : decide (xo < 0) = false := by simpa using r2
     by_cases r3 : F ≤ xo
     · have z : decide (F ≤ xo) = true := by simpa using r3
       have hE := Lib.hid (hbad.out 4 (by rw [HEr.out, if_pos (by omega)]) (by omega))
       go_wp2_with fail
       go_ret
       exact ⟨ret_int hE.out.symm, hBV⟩
     have z3 : decide (F ≤ xo) = false := by simpa using r3
     have HEy : Hid (prErr F l j = if 0 < j ∧ lessR (gp l (j - 1)) ⟨xi, xo⟩ = false then 13 else 0) := by
       show _ = _
       rw [HEr.out, if_neg (by omega)]
     clear HEr r0 r1 r2 r3
     by_cases hj0 : j = 0
     · have y1 : decide (0 < j) = false := by simp; omega
       have y2 : decide ((0 : Int) < (j : Int)) = false := by simp; omega
       have hfin := Lib.hid (hstep.out (by rw [HEy.out, if_neg (by omega)]))
       clear hj0
       go_upto_region 10 with fail
       go_quiet (fail)
       go_wp2_with fail
       exact ⟨⟨j + 1, by omega, by go_num, hkw.drewN _, hfin⟩, by simp [intOf]; omega⟩
     have y1 : decide (0 < j) = true := by simp; omega
     have y2 : decide ((0 : Int) < (j : Int)) = true := by simp; omega
     have y3 : IntKind.i64.wrap ((j : Int) - 1) = (j : Int) - 1 := IntWalk.i64_in _ (by omega)
     have y4 : (0 : Int) ≤ (j : Int) - 1 := by omega
     have y5 : ((j : Int) - 1).toNat = j - 1 := by omega
     have y6 : (j : Int) - 1 < (n : Int) := by omega
     have y7 : 0 < j := by omega
     have y8 : 1 ≤ j := by omega
     have y9 : (1 : Int) ≤ (j : Int) := by omega
     have y10 : j ≤ n := by omega
     have y11 : j < n + 1 := by omega
     have y12 : (j : Int) < (n : Int) + 1 := by omega
     have y13 : (j : Int) ≤ (n : Int) := by omega
     obtain ⟨p1, p2⟩ := HC.out (j - 1) (by omega)
     obtain ⟨pi, po, ep⟩ : ∃ pi po, gp l (j - 1) = ⟨pi, po⟩ := ⟨_, _, rfl⟩
     rw [ep] at p1 p2
     have q1 : V.cell? ⟨b, o + (j - 1) * 2, none⟩ = some (.int .i64 pi) := (hkV.cell b _ LB.out (by simp)).trans p1
     have q2 : V.cell? ⟨b, o + (j - 1) * 2 + 1, none⟩ = some (.int .i64 po) := (hkV.cell b _ LB.out (by simp)).trans p2
     have hbV : b < V.heap.size := Nat.lt_of_lt_of_le LB.out hkV.size
     have HEx : Hid (prErr F l j = if lessR ⟨pi, po⟩ ⟨xi, xo⟩ = false then 13 else 0) := by
       show _ = _
       rw [HEy.out, ep]
       simp [y7]
     clear p1 p2 ep hj0
     go_upto_region 10 with fail
     go_cut [54] (fun s wx => s = .bool (!lessR ⟨pi, po⟩ ⟨xi, xo⟩) ∧ Kept [] V wx)
     case first =>
       go_region_held3 (fun w' => SX0 V w') (exact kp0)
         (first | (go_at_call 126; refine (fcompare_any pi po xi xo _).mono ?_; rintro e w3 ⟨rfl, hb3⟩; obtain ⟨hc3, hf3, hg3⟩ := bcell hb3; have hz3 := hb3.size; try simp at hz3))
       all_goals
         go_wp2_with fail
         go_meet
         refine ⟨congrArg Value.bool (ordR_ge ⟨pi, po⟩ ⟨xi, xo⟩), ?_⟩
         (exact kpt0)
     case rest =>
       obtain ⟨rfl, hkc⟩ := hcut
       have hkwc : Kept [] w wc := keptTrans hkw hkc
       clear CG FG q1 q2
       by_cases hles : lessR ⟨pi, po⟩ ⟨xi, xo⟩ = true
       · rw [hles]
         have hfin := Lib.hid (hstep.out (by rw [HEx.out, hles, if_neg (by simp)]))
         clear hles
         go_wp2_with fail
         exact ⟨⟨j + 1, by omega, by go_num, hkwc, hfin⟩, by simp [intOf]; omega⟩
       · rw [Bool.not_eq_true] at hles
         rw [hles]
         have hE := Lib.hid (hbad.out 13 (by rw [HEx.out, hles, if_pos rfl]) (by omega))
         clear hles
         go_wp2_with fail
         go_ret
         exact ⟨ret_int hE.out.symm, hkwc.toBelow⟩
   · obtain rfl : j = n := by omega
     have hall : Hid (∀ x, x < l.length → prErr F l x = 0) := fun x hx => hno.out x (by rw [HL.out] at hx; exact hx)
     have HZ := Lib.hid (fl_end HF1.out HF2.out h8.out hall.out)
     clear hno hlt
     by_cases hn0 : j = 0
     · have k1 : ((j : Int) == 0) = true := by simp; omega
       have k2 : (j == 0) = true := by simp; omega
       have hE : Hid (flErr F l = 1) := by show _ = _; rw [HZ.out, if_pos (.inl (by rw [HL.out]; exact hn0))]
       clear hn0
       go_wp2_with fail
       go_ret
       exact ⟨ret_int hE.out.symm, hkr.toBelow⟩
     · have k1 : ((j : Int) == 0) = false := by simp; omega
       have k2 : (j == 0) = false := by simp; omega
       obtain ⟨b, o, rfl, hl, hc⟩ := (HP.out.later hBr).2 (by omega)
       obtain ⟨h1, h2⟩ := hc 0 (by omega)
       simp only [Nat.zero_mul, Nat.add_zero] at h1 h2
       obtain ⟨xi, xo, en⟩ : ∃ xi xo, gp l 0 = ⟨xi, xo⟩ := ⟨_, _, rfl⟩
       rw [en] at h1 h2
       have hjp : 0 < j := by omega
       have HE : Hid (flErr F l = if (⟨xi, xo⟩ : Pr) ≠ ⟨0, 0⟩ then 1 else 0) := by
         show _ = _
         rw [HZ.out, en, HL.out]
         simp [hn0]
       clear en hc hn0
       by_cases hq : (⟨xi, xo⟩ : Pr) = ⟨0, 0⟩
       · obtain ⟨rfl, rfl⟩ : xi = 0 ∧ xo = 0 := by simpa using hq
         have hE := Lib.hid (HE.out.trans (if_neg (not_not_intro rfl)))
         clear hq
         go_wp2_with fail
         go_ret
         exact ⟨ret_int hE.out.symm, hkr.toBelow⟩
       · have hE := Lib.hid (HE.out.trans (if_pos hq))
         by_cases exi : xi = 0
         case neg =>
           have fxi : (xi == 0) = false := by simpa using exi
           have fxi' : (xi != 0) = true := by simpa using exi
           clear exi hq
           go_wp2_with fail
           all_goals
             go_ret
             exact ⟨ret_int hE.out.symm, hkr.toBelow⟩
         subst exi
         have exo : ¬ xo = 0 := fun h9 => hq (by rw [h9])
         have fxo : (xo == 0) = false := by simpa using exo
         have fxo' : (xo != 0) = true := by simpa using exo
         clear exo hq
         go_wp2_with fail
         all_goals
           go_ret
           exact ⟨ret_int hE.out.symm, hkr.toBelow⟩
set_option maxRecDepth 100000 in
set_option maxHeartbeats 8000000 in
theorem ifdsck_any (A1 A2 A3 A4 : Option Addr) (n1 c1 n2 c2 n3 c3 n4 c4 : Nat) (mn F : Int) (ns : List Sp.Nd) (es : List Sp.Ed) (ls : List (List Pr)) (sd : List Sd) (w : World) (hn : Nds w A1 n1 ns) (he : Eds w A2 n2 es) (hf : Flw w A3 n3 ls) (hsd : Sds w A4 n4 sd) (h4 : n4 ≤ 9223372036854775807) (hwn : ∀ j, j < n1 → (Lit.int .i64 (gn ns j).f).wf = true) (hwe : ∀ j, j < n2 → (Lit.int .i64 (ge es j).a).wf = true ∧ (Lit.int .i64 (ge es j).b).wf = true) :
   Calls Tryz.prog 49 #[.agg #[.slice A1 n1 c1, .slice A2 n2 c2, .int .i64 mn, .int .i64 F, .slice A3 n3 c3, .slice A4 n4 c4]] w fun e w' => e = .returned (.int .i64 (pbErr ⟨ns, es, mn, F, ls, sd⟩)) ∧ Below w.heap.size w w' := by
 obtain ⟨pe0, hpe0⟩ : ∃ x, pbErr ⟨ns, es, mn, F, ls, sd⟩ = x := ⟨_, rfl⟩
 rw [hpe0]
 have HPB := Lib.hid hpe0
 clear hpe0
 have HN := Lib.hid hn
 have HE := Lib.hid he
 have HF := Lib.hid hf
 have HS := Lib.hid hsd
 have HL1 := Lib.hid hn.1
 have HL2 := Lib.hid he.1
 have HL3 := Lib.hid hf.1
 have HL4 := Lib.hid hsd.1
 have HWN := Lib.hid hwn
 have HWE := Lib.hid hwe
 clear hn he hf hsd hwn hwe
 go_enter Tryz.func49, Tryz.ntmps49
 go_upto_region 1 with fail
 refine wp_named (fun W => ∃ b0, w.heap.size = b0 ∧ Blk W b0 [.slice A1 n1 c1, .slice A2 n2 c2, .int .i64 mn, .int .i64 F, .slice A3 n3 c3, .slice A4 n4 c4] ∧ Below w.heap.size w W) ⟨_, rfl, ?_, ?_⟩ ?_
 · exact kbn
 · go_grown
 rintro W ⟨b0, e0, B0, hB⟩
 rw [e0]
 have G0 : w.heap.size ≤ b0 := by omega
 clear e0
 have ⟨L0, C0, F0⟩ := B0
 go_wp2_with fail
 refine (super_any _ _ _ _ _ _ _ ns es _ (HN.out.later hB) (HE.out.later hB) HWN.out HWE.out).mono ?_
 rintro e w1 ⟨rfl, hb1⟩
 have hk1 : Kept [] W w1 := (Kept.refl _ _).call hb1
 have hB1 := hk1.below hB hB.size (by simp)
 have ⟨L1, C1, F1⟩ := hk1.blk (by simp) B0
 clear C0 F0
 obtain ⟨se, hse⟩ : ∃ x, Sp.superErr ns es mn = x := ⟨_, rfl⟩
 rw [hse]
 have HSE := Lib.hid hse
 clear hse
 by_cases h0 : se = 0
 case neg =>
   have h0' : (se != 0) = true := by simpa using h0
   have hE : Hid (pe0 = se) := by show _ = _; rw [← HPB.out]; unfold pbErr; rw [HSE.out, if_pos h0]
   clear h0
   go_wp2_with fail
   go_ret
   exact ⟨ret_int hE.out.symm, hB1⟩
 subst h0
 by_cases f1 : F < 1
 · have z : decide (F < 1) = true := by simpa using f1
   have hE : Hid (pe0 = 4) := by show _ = _; rw [← HPB.out]; unfold pbErr; rw [HSE.out, if_neg (by simp), if_pos (show F < 1 ∨ 1024 < F by omega)]
   go_wp2_with fail
   go_ret
   exact ⟨ret_int hE.out.symm, hB1⟩
 have z1 : decide (F < 1) = false := by simpa using f1
 by_cases f2 : 1024 < F
 · have z : decide (1024 < F) = true := by simpa using f2
   have hE : Hid (pe0 = 4) := by show _ = _; rw [← HPB.out]; unfold pbErr; rw [HSE.out, if_neg (by simp), if_pos (show F < 1 ∨ 1024 < F by omega)]
   go_wp2_with fail
   go_ret
   exact ⟨ret_int hE.out.symm, hB1⟩
 have z2 : decide (1024 < F) = false := by simpa using f2
 have HFF : Hid (¬ (F < 1 ∨ 1024 < F)) := by show ¬ _; omega
 by_cases f3 : n3 = n2
 case neg =>
   have y1 : ((n3 : Int) != (n2 : Int)) = true := by simp; omega
   have y2 : (n3 != n2) = true := by simp; omega
   have hE : Hid (pe0 = 20) := by show _ = _; rw [← HPB.out]; unfold pbErr; rw [HSE.out, if_neg (by simp), if_neg HFF.out, if_pos (by rw [HL3.out, HL2.out]; exact f3)]
   go_wp2_with fail
   go_ret
   exact ⟨ret_int hE.out.symm, hB1⟩
 have y1 : ((n3 : Int) != (n2 : Int)) = false := by simp; omega
 have y2 : (n3 != n2) = false := by simp; omega
 have HLL : Hid (ls.length = es.length) := by show _ = _; rw [HL3.out, HL2.out]; exact f3
 have hn2 : n2 ≤ 32768 := by
   have h1 := HSE.out
   unfold Sp.superErr at h1
   rw [HL1.out, HL2.out] at h1
   split at h1
   · cases h1
   · omega
 subst f3
 clear f1 f2
 go_wp2_with fail
 go_loopw [34] (fun i wr => ∃ j : Nat, j ≤ n3 ∧ i = .int .i64 j ∧ Kept [] W wr ∧ Hid (∀ x, x < j → flErr F (gf ls x) = 0)) (fun i _ => n3 - (intOf i).toNat)
 case atStart => exact ⟨0, Nat.zero_le _, rfl, hk1, Lib.hid (fun j hj => absurd hj (by omega))⟩
 case round =>
   obtain ⟨j, hj, rfl, hkr, hno⟩ := hrel
   have BR := hkr.blk (by simp) B0
   have ⟨LR, CR, FR⟩ := BR
   have hBr := hkr.below hB hB.size (by simp)
   clear C1 F1
   by_cases hlt : j < n3
   · obtain ⟨b, o, rfl, hl, hc⟩ := (HF.out.later hBr).2 (by omega)
     obtain ⟨Ai, ni, ci, h1, -, hx⟩ := hc j hlt
     have HX := Lib.hid hx
     clear hc hx
     have hbad : Hid (∀ e, flErr F (gf ls j) = e → e ≠ 0 → pe0 = e) := fun e h1 h2 => HPB.out.symm.trans (pb_flow (p := ⟨ns, es, mn, F, ls, sd⟩) HSE.out HFF.out HLL.out hno.out (by show _ < ls.length; rw [HL3.out]; exact hlt) h1 h2)
     have hstep : Hid (flErr F (gf ls j) = 0 → ∀ x, x < j + 1 → flErr F (gf ls x) = 0) := fun h0 x hx => by
       rcases Nat.lt_or_ge x j with h9 | h9
       · exact hno.out x h9
       · obtain rfl : x = j := by omega
         exact h0
     obtain ⟨pe, hpe⟩ : ∃ x, flErr F (gf ls j) = x := ⟨_, rfl⟩
     have HPE := Lib.hid hpe
     clear hpe
     have x3 : (j : Int) < (n3 : Int) := by omega
     go_wp2_with fail
     refine (fcheck_any _ _ _ F (gf ls j) _ HX.out).mono ?_
     rw [HPE.out]
     rintro e w5 ⟨rfl, hb5⟩
     clear CR FR h1
     have hk5 : Kept [] W w5 := hkr.call hb5
     have hB5 := hk5.below hB hB.size (by simp)
     by_cases hx0 : pe = 0
     · have hx0' : (pe != 0) = false := by simpa using hx0
       have hfin := Lib.hid (hstep.out (HPE.out.trans hx0))
       clear hx0
       go_wp2_with fail
       exact ⟨⟨j + 1, by omega, by go_num, hk5, hfin⟩, by simp [intOf]; omega⟩
     · have hx0' : (pe != 0) = true := by simpa using hx0
       have hE := Lib.hid (hbad.out pe HPE.out hx0)
       clear hx0
       go_wp2_with fail
       go_ret
       exact ⟨ret_int hE.out.symm, hB5⟩
   · obtain rfl : j = n3 := by omega
     have hall : Hid (∀ x, x < ls.length → flErr F (gf ls x) = 0) := fun x hx => hno.out x (by rw [HL3.out] at hx; exact hx)
     have HN3 : Hid (es.length = j) := Lib.hid HL2.out
     clear hno hlt hj
     go_wp2_with fail
     go_loopw [49] (fun i wz => ∃ q : Nat, q ≤ n4 ∧ i = .int .i64 q ∧ Kept [] W wz ∧ Hid (∀ x, x < q → sdErr n1 F sd x = 0)) (fun i _ => n4 - (intOf i).toNat)
     case atStart => exact ⟨0, Nat.zero_le _, rfl, hkr, Lib.hid (fun j hj => absurd hj (by omega))⟩
     case round =>
       rename World => wz
       obtain ⟨q, hq, rfl, hkz, hno⟩ := hrel
       have BZ := hkz.blk (by simp) B0
       have ⟨LZ, CZ, FZ⟩ := BZ
       have hBz := hkz.below hB hB.size (by simp)
       clear CR FR
       by_cases hlt : q < n4
       case neg =>
         obtain rfl : q = n4 := by omega
         have hE : Hid (pe0 = 0) := Lib.hid (HPB.out.symm.trans (pb_ok (p := ⟨ns, es, mn, F, ls, sd⟩) HSE.out HFF.out HLL.out hall.out (fun x hx => by show sdErr ns.length F sd x = 0; rw [HL1.out]; exact hno.out x (by rw [← HL4.out]; exact hx))))
         go_wp2_with fail
         go_ret
         exact ⟨ret_int hE.out.symm, hBz⟩
       obtain ⟨b, o, rfl, hl, hc⟩ := (HS.out.later hBz).2 (by omega)
       obtain ⟨h1, h2⟩ := hc q hlt
       have HC := Lib.hid hc
       have LB := Lib.hid hl
       clear hc
       obtain ⟨sn, sf, en⟩ : ∃ sn sf, gd sd q = ⟨sn, sf⟩ := ⟨_, _, rfl⟩
       rw [en] at h1 h2
       have HEe := Lib.hid en
       clear en
       go_upto_region 18 with fail
       refine wp_named (fun V => ∃ g, wz.heap.size = g ∧ Blk V g [.int .i64 sn, .int .i64 sf] ∧ Kept [] wz V) ⟨_, rfl, Blk.new _ _ _ _ rfl, (Kept.refl _ _).alloc _⟩ ?_
       rintro V ⟨g, eg, Bg, hkV⟩
       rw [eg]
       have hkw : Kept [] W V := keptTrans hkz hkV
       have ⟨LG, CG, FG⟩ := Bg
       have BV := hkw.blk (by simp) B0
       have ⟨LV, CV, FV⟩ := BV
       have hBV := hkw.below hB hB.size (by simp)
       clear CZ FZ h1 h2 eg
       have hbad : Hid (∀ e, sdErr n1 F sd q = e → e ≠ 0 → pe0 = e) := fun e h1 h2 => HPB.out.symm.trans (pb_seed (p := ⟨ns, es, mn, F, ls, sd⟩) HSE.out HFF.out HLL.out hall.out (j := q) (fun x hx => by show sdErr ns.length F sd x = 0; rw [HL1.out]; exact hno.out x hx) (by show _ < sd.length; rw [HL4.out]; exact hlt) (by show sdErr ns.length F sd q = e; rw [HL1.out]; exact h1) h2)
       have hstep : Hid (sdErr n1 F sd q = 0 → ∀ x, x < q + 1 → sdErr n1 F sd x = 0) := fun h0 x hx => by
         rcases Nat.lt_or_ge x q with h9 | h9
         · exact hno.out x h9
         · obtain rfl : x = q := by omega
           exact h0
       have HEr : Hid (sdErr n1 F sd q = if sn < 0 ∨ (n1 : Int) ≤ sn ∨ sf < 1 ∨ F ≤ sf then 4 else if 0 < q ∧ lessD (gd sd (q - 1)) ⟨sn, sf⟩ = false then 13 else 0) := by
         show _ = _
         unfold sdErr
         rw [HEe.out]
       by_cases r0 : sn < 0
       · have z : decide (sn < 0) = true := by simpa using r0
         have hE := Lib.hid (hbad.out 4 (by rw [HEr.out, if_pos (by omega)]) (by omega))
         go_wp2_with fail
         go_ret
         exact ⟨ret_int hE.out.symm, hBV⟩
       have r0' : decide (sn < 0) = false := by simpa using r0
       by_cases r1 : (n1 : Int) ≤ sn
       · have z : decide ((n1 : Int) ≤ sn) = true := by simpa using r1
         have hE := Lib.hid (hbad.out 4 (by rw [HEr.out, if_pos (by omega)]) (by omega))
         go_wp2_with fail
         go_ret
         exact ⟨ret_int hE.out.symm, hBV⟩
       have r1' : decide ((n1 : Int) ≤ sn) = false := by simpa using r1
       by_cases r2 : sf < 1
       · have z : decide (sf < 1) = true := by simpa using r2
         have hE := Lib.hid (hbad.out 4 (by rw [HEr.out, if_pos (by omega)]) (by omega))
         go_wp2_with fail
         go_ret
         exact ⟨ret_int hE.out.symm, hBV⟩
       have r2' : decide (sf < 1) = false := by simpa using r2
       by_cases r3 : F ≤ sf
       · have z : decide (F ≤ sf) = true := by simpa using r3
         have hE := Lib.hid (hbad.out 4 (by rw [HEr.out, if_pos (by omega)]) (by omega))
         go_wp2_with fail
         go_ret
         exact ⟨ret_int hE.out.symm, hBV⟩
       have r3' : decide (F ≤ sf) = false := by simpa using r3
       have HEy : Hid (sdErr n1 F sd q = if 0 < q ∧ lessD (gd sd (q - 1)) ⟨sn, sf⟩ = false then 13 else 0) := by
         show _ = _
         rw [HEr.out, if_neg (by omega)]
       clear HEr r0 r1 r2 r3
       by_cases hq0 : q = 0
       · have y3 : decide (0 < q) = false := by simp; omega
         have y4 : decide ((0 : Int) < (q : Int)) = false := by simp; omega
         have hfin := Lib.hid (hstep.out (by rw [HEy.out, if_neg (by omega)]))
         clear hq0
         go_upto_region 20 with fail
         go_quiet (fail)
         go_wp2_with fail
         exact ⟨⟨q + 1, by omega, by go_num, hkw.drewN _, hfin⟩, by simp [intOf]; omega⟩
       have u1 : decide (0 < q) = true := by simp; omega
       have u2 : decide ((0 : Int) < (q : Int)) = true := by simp; omega
       have u3 : IntKind.i64.wrap ((q : Int) - 1) = (q : Int) - 1 := IntWalk.i64_in _ (by omega)
       have u4 : (0 : Int) ≤ (q : Int) - 1 := by omega
       have u5 : ((q : Int) - 1).toNat = q - 1 := by omega
       have u6 : (q : Int) - 1 < (n4 : Int) := by omega
       have u7 : 0 < q := by omega
       have u8 : 1 ≤ q := by omega
       have u9 : (1 : Int) ≤ (q : Int) := by omega
       have u10 : q ≤ n4 := by omega
       have u11 : q < n4 + 1 := by omega
       have u12 : (q : Int) < (n4 : Int) + 1 := by omega
       have u13 : (q : Int) ≤ (n4 : Int) := by omega
       obtain ⟨p1, p2⟩ := HC.out (q - 1) (by omega)
       obtain ⟨pn, pf, ep⟩ : ∃ pn pf, gd sd (q - 1) = ⟨pn, pf⟩ := ⟨_, _, rfl⟩
       rw [ep] at p1 p2
       have q1 := (hkV.cell b _ LB.out (by simp)).trans p1
       have q2 := (hkV.cell b _ LB.out (by simp)).trans p2
       have hb6' : b < V.heap.size := Nat.lt_of_lt_of_le LB.out hkV.size
       have HEx : Hid (sdErr n1 F sd q = if lessD ⟨pn, pf⟩ ⟨sn, sf⟩ = false then 13 else 0) := by
         show _ = _
         rw [HEy.out, ep]
         simp [u7]
       clear p1 p2 ep hq0 HEy
       go_upto_region 20 with fail
       go_cut [90] (fun s wx => s = .bool (!lessD ⟨pn, pf⟩ ⟨sn, sf⟩) ∧ Kept [] V wx)
       case first =>
         go_region_held3 (fun w' => SX0 V w') (exact kp0)
           (first | (go_at_call 87; refine (scompare_any pn pf sn sf _).mono ?_; rintro e w3 ⟨rfl, hb3⟩; obtain ⟨hc3, hf3, hg3⟩ := bcell hb3; have hz3 := hb3.size; try simp at hz3))
         all_goals
           go_wp2_with fail
           go_meet
           refine ⟨congrArg Value.bool (ordD_ge ⟨pn, pf⟩ ⟨sn, sf⟩), ?_⟩
           (exact kpt0)
       case rest =>
         obtain ⟨rfl, hkc⟩ := hcut
         have hkwc : Kept [] W wc := keptTrans hkw hkc
         by_cases hles : lessD ⟨pn, pf⟩ ⟨sn, sf⟩ = true
         · rw [hles]
           have hfin := Lib.hid (hstep.out (by rw [HEx.out, hles, if_neg (by simp)]))
           clear hles
           go_wp2_with fail
           exact ⟨⟨q + 1, by omega, by go_num, hkwc, hfin⟩, by simp [intOf]; omega⟩
         · rw [Bool.not_eq_true] at hles
           rw [hles]
           have hE := Lib.hid (hbad.out 13 (by rw [HEx.out, hles, if_pos rfl]) (by omega))
           clear hles
           go_wp2_with fail
           go_ret
           exact ⟨ret_int hE.out.symm, hkwc.below hB hB.size (by simp)⟩
end Go.Proofs.YtooejoajojanjaaGreatDoor
