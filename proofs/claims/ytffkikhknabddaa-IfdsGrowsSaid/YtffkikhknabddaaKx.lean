/- The walk of the law IfdsGrows. -/
import Derived.Test.YtffkikhknabddaaKy
import Derived.Test.YtffkikhknabddaaKz
namespace Go.Proofs.Ytffkikhknabddaa
open Go.RowKit Go.Df Go.Df.If
attribute [local go_sem ↓] Go.wp_at_zero Go.wp_at_succ

theorem flowi_info : (Try.prog.info? 67).map (fun i => (i.zero, i.size, i.bytes)) = some (some (.slice none 0 0), 1, 24) := by kernel_rfl

set_option maxRecDepth 100000 in
set_option maxHeartbeats 8000000 in
theorem ifdsGrows_any {p : Pb} (A1 A2 A3 A4 : Option Addr) (n1 c1 n2 c2 n3 c3 n4 c4 : Nat) (kn : Nat) (xi xo : Int) (w : World) (hG : Gr w A1 n1 A2 n2 p.ns p.es) (hF : Flw w A3 n3 p.fl) (hS : Sds w A4 n4 p.sd) (hn4 : n4 ≤ 9223372036854775807) (hkn : kn < 18446744073709551616) :
    Calls Try.prog 9 #[.agg #[.slice A1 n1 c1, .slice A2 n2 c2, .int .i64 p.mn, .int .i64 p.F, .slice A3 n3 c3, .slice A4 n4 c4], .int .u64 kn, .agg #[.int .i64 xi, .int .i64 xo]] w fun e w' => e = .returned (.bool true) ∧ Below w.heap.size w w' := by
  have HG := Lib.hid hG
  have HF := Lib.hid hF
  have HS := Lib.hid hS
  obtain ⟨pe, hpe⟩ : ∃ pe, pbErr ⟨p.ns, p.es, p.mn, p.F, p.fl, p.sd⟩ = pe := ⟨_, rfl⟩
  have HPE := Lib.hid hpe
  clear hG hF hS hpe
  go_enter Try.func9, Try.ntmps9
  go_upto_region 1 with fail
  refine wp_named (fun W => ∃ b0 b1, w.heap.size = b0 ∧ w.heap.size + 1 = b1 ∧ Blk W b0 [.slice A1 n1 c1, .slice A2 n2 c2, .int .i64 p.mn, .int .i64 p.F, .slice A3 n3 c3, .slice A4 n4 c4] ∧ Blk W b1 [.int .i64 xi, .int .i64 xo] ∧ Below w.heap.size w W) ⟨_, _, rfl, rfl, ?_, ?_, ?_⟩ ?_
  · exact (Blk.new _ _ _ _ (by first | rfl | simp)).alloc _
  · exact Blk.new _ _ _ _ (by first | rfl | simp)
  · go_grown
  rintro W ⟨b0, b1, e0, e1, B0, B1, hB⟩
  rw [e1, e0]
  have G0 : w.heap.size ≤ b0 := by omega
  have n01 : b0 ≠ b1 := by omega
  have G1 : w.heap.size ≤ b1 := by omega
  have n10 : b1 ≠ b0 := by omega
  clear e0 e1
  have ⟨L0, C0, F0⟩ := B0
  have ⟨L1, C1, F1⟩ := B1
  go_wp2_with fail
  refine (small_any A1 A2 A3 A4 n1 c1 n2 c2 n3 c3 n4 c4 p.mn p.F p.fl _ (HF.out.later hB)).mono ?_
  rintro e w1 ⟨⟨b, rfl, hsm⟩, hb1⟩
  have hk1 : Kept [] W w1 := (Kept.refl _ _).call hb1
  have B01 := hk1.blk (by simp) B0
  have B11 := hk1.blk (by simp) B1
  have ⟨L01, C01, F01⟩ := B01
  have hB1 : Below w.heap.size w w1 := hk1.below hB hB.size (by simp)
  clear C0 F0 C1 F1
  cases b with
  | false =>
    go_wp2_with fail
    go_ret
    exact ⟨rfl, hB1⟩
  | true =>
  have hs := hsm rfl
  have hn20 : n4 ≤ 1000000 := by omega
  have hn140 : n1 ≤ 1000000 := by omega
  have hn380 : n3 ≤ 80 := by omega
  clear hsm hs
  go_wp2_with fail
  refine (rifdsck_any A1 A2 A3 A4 n1 c1 n2 c2 n3 c3 n4 c4 p.mn p.F p.ns p.es p.fl p.sd _ (HG.out.nd.later hB1) (HG.out.ed.later hB1) (HF.out.later hB1) (HS.out.later hB1) hn4 HG.out.wn HG.out.we).mono ?_
  rw [HPE.out]
  rintro e w2 ⟨rfl, hb2⟩
  have hk12 : Kept [] w1 w2 := (Kept.refl _ _).call hb2
  have B02 := hk12.blk (by simp) B01
  have B12 := hk12.blk (by simp) B11
  have ⟨L02, C02, F02⟩ := B02
  have hB2 : Below w.heap.size w w2 := hk12.below hB1 hB1.size (by simp)
  clear C01 F01
  by_cases h0 : pe = 0
  case neg =>
    have h0' : (pe != 0) = true := by simpa using h0
    clear h0
    go_wp2_with fail
    go_ret
    exact ⟨rfl, hB2⟩
  subst h0
  by_cases h3 : n3 = 0
  · subst h3
    go_wp2_with fail
    go_ret
    exact ⟨rfl, hB2⟩
  have h3' : ((n3 : Int) == 0) = false := by simp; omega
  have h3p : 0 < n3 := by omega
  have HGW := Lib.hid (HG.out.later hB2)
  have HFW := Lib.hid (HF.out.later hB2)
  have HSW := Lib.hid (HS.out.later hB2)
  have HPB : Hid (pbErr p = 0) := HPE
  clear h3
  go_upto_region 4 with (go_at_call 28; refine (solve_any A1 A2 A3 A4 n1 c1 n2 c2 n3 c3 n4 c4 _ HGW.out HFW.out HSW.out hn20 0 HPB.out rfl).mono ?_; rintro e w3 ⟨S1, S2, n, rfl, hn, hr3, hf3, hb3⟩; obtain rfl : n1 = n := HG.out.nd.1.symm.trans hn.symm; clear hn)
  refine wp_named (fun V => ∃ g, w3.heap.size = g ∧ Blk V g [.slice S1 n1 n1, .slice S2 n1 n1] ∧ Kept [] w3 V) ⟨_, rfl, Blk.new _ _ _ _ rfl, (Kept.refl _ _).alloc _⟩ ?_
  rintro V ⟨g, eg, Bg, hkV⟩
  rw [eg]
  have hk2V : Kept [] w2 V := ((Kept.refl [] w2).call hb3).next hkV (by simp)
  have HR3 := Lib.hid (hr3.later hkV.toBelow)
  have HF3 := Lib.hid (hf3.later hkV.toBelow)
  have B0V := hk2V.blk (by simp) B02
  have B1V := hk2V.blk (by simp) B12
  have ⟨L0V, C0V, F0V⟩ := B0V
  have ⟨L1V, C1V, F1V⟩ := B1V
  have hBV : Below w.heap.size w V := hk2V.below hB2 hB2.size (by simp)
  clear C02 F02 eg hr3 hf3
  have u1 : IntKind.u64.wrap (n3 : Int) = (n3 : Int) := IntWalk.u64_in _ (by omega)
  have hfll := HF.out.1
  obtain ⟨am, ham⟩ : ∃ am, kn % n3 = am := ⟨_, rfl⟩
  have haml : am < n3 := by rw [← ham]; exact Nat.mod_lt _ h3p
  have hmod : Hid ((kn : Int) % (n3 : Int) = (am : Int)) := Lib.hid (by rw [← ham]; simp)
  obtain ⟨bf, of_, rfl, hlf, hcf⟩ := HF.out.2 h3p
  obtain ⟨Am, nm, cm, fm1, fm2, fm3⟩ := hcf am haml
  have hnm8 : nm ≤ 8192 := by have h9 := ((ok_of HPB.out).fl am (by rw [hfll]; exact haml)).1; have := fm3.1; omega
  have fmV := (hBV.cell (p := ⟨bf, _, none⟩) hlf).trans fm1
  have hlfV : bf < V.heap.size := Nat.lt_of_lt_of_le hlf hBV.size
  have HPM := Lib.hid (fm3.later hBV)
  have HCF := Lib.hid hcf
  have HFL := Lib.hid hfll
  have ham9 : (am : Int) < (n3 : Int) := by omega
  clear ham fm1 fm3 hcf hfll
  go_upto_region 5 with fail
  rw [hmod.out, IntWalk.wrap64_in (am : Int) (by omega)]
  clear hmod u1
  refine wp_region_E 8 (fun w' => SX0 V w') (by kernel_rfl) (by (repeat' first | (with_reducible assumption) | (with_reducible exact SX0.init _) | (with_reducible exact SX0.refl _) | (with_reducible refine SX0.alloc ?_ _) | (with_reducible refine SX0.call ?_ (by assumption)) | (with_reducible refine SX0.set ?_ _ _ _ ?_) | (with_reducible refine SX0.drew ?_) | (simp; done) | omega | (simp; omega))) (fun hHeld => ?_)
  refine WE_take 0 (v := ?_) rfl (by kernel_rfl) (fun _ _ _ h => h) (Or.inl ⟨by rfl, ?_⟩) (by assumption) ?_; rotate_left; (· intro w9 hSw; (try dsimp only at hSw); go_simp; try with_reducible rfl); (try simp only [Act.put, List.setIfInBounds_toArray, List.set_cons_zero, List.set_cons_succ])
  refine WE_take 1 (v := ?_) rfl (by kernel_rfl) (fun _ _ _ h => h) (Or.inl ⟨by rfl, ?_⟩) (by assumption) ?_; rotate_left; (· intro w9 hSw; (try dsimp only at hSw); go_simp; try with_reducible rfl); (try simp only [Act.put, List.setIfInBounds_toArray, List.set_cons_zero, List.set_cons_succ])
  refine WE_take 2 (v := ?_) rfl (by kernel_rfl) (fun _ _ _ h => h) (Or.inl ⟨by rfl, ?_⟩) (by assumption) ?_; rotate_left; (· intro w9 hSw; (try dsimp only at hSw); go_simp; try with_reducible rfl); (try simp only [Act.put, List.setIfInBounds_toArray, List.set_cons_zero, List.set_cons_succ])
  refine WE_take 3 (v := ?_) rfl (by kernel_rfl) (fun _ _ _ h => h) (Or.inl ⟨by rfl, ?_⟩) (by assumption) ?_; rotate_left; (· intro w9 hSw; (try dsimp only at hSw); go_simp; try with_reducible rfl); (try simp only [Act.put, List.setIfInBounds_toArray, List.set_cons_zero, List.set_cons_succ])
  refine WE_take 4 (v := ?_) rfl (by kernel_rfl) (fun _ _ _ h => h) (Or.inl ⟨by rfl, ?_⟩) (by assumption) ?_; rotate_left; (· intro w9 hSw; (try dsimp only at hSw); go_simp; try with_reducible rfl); (try simp only [Act.put, List.setIfInBounds_toArray, List.set_cons_zero, List.set_cons_succ])
  refine WE_take 5 (v := ?_) rfl (by kernel_rfl) (fun _ _ _ h => h) (Or.inl ⟨by rfl, ?_⟩) (by assumption) ?_; rotate_left; (· intro w9 hSw; (try dsimp only at hSw); go_simp; try with_reducible rfl); (try simp only [Act.put, List.setIfInBounds_toArray, List.set_cons_zero, List.set_cons_succ])
  refine WE_step 6 rfl (by kernel_rfl) (fun K hK => ?_)
  go_simp
  refine hK.out _ _ ?_ (fun hHeld => ?_)
  · (repeat' first | (with_reducible assumption) | (with_reducible exact SX0.init _) | (with_reducible exact SX0.refl _) | (with_reducible refine SX0.alloc ?_ _) | (with_reducible refine SX0.call ?_ (by assumption)) | (with_reducible refine SX0.set ?_ _ _ _ ?_) | (with_reducible refine SX0.drew ?_) | (simp; done) | omega | (simp; omega))
  clear hK K
  try simp only [Act.put, List.setIfInBounds_toArray, List.set_cons_zero, List.set_cons_succ]
  refine WE_step 7 rfl (by kernel_rfl) (fun K hK => ?_)
  go_simp
  (go_at_call 36; refine (runion_any Am (some ⟨V.heap.size, 0, none⟩) nm cm 1 1 (gf p.fl am) [⟨xi, xo⟩] _ (HPM.out.later (((Kept.refl [] V).drew).alloc _).toBelow) (prs1 _ _ _ _ _ rfl) (by omega) (by omega)).mono ?_; rintro e w5 ⟨AM, nM, cM, rfl, hm5, hnM, hb5⟩; have HM5 := Lib.hid hm5; clear hm5)
  (try go_wp2_with fail)
  refine hK.out _ _ ?_ (fun hHeld => ?_)
  · (repeat' first | (with_reducible assumption) | (with_reducible exact SX0.init _) | (with_reducible exact SX0.refl _) | (with_reducible refine SX0.alloc ?_ _) | (with_reducible refine SX0.call ?_ (by assumption)) | (with_reducible refine SX0.set ?_ _ _ _ ?_) | (with_reducible refine SX0.drew ?_) | (simp; done) | omega | (simp; omega))
  clear hK K
  try simp only [Act.put, List.setIfInBounds_toArray, List.set_cons_zero, List.set_cons_succ]
  refine WE_last rfl (by kernel_rfl) (fun K hK => ?_)
  go_simp
  refine hK.out _ _ ?_
  clear hK K
  have hkV5 : Kept [] V w5 := hHeld.1
  obtain ⟨more, hmore⟩ : ∃ more, unionR (gf p.fl am) [⟨xi, xo⟩] = more := ⟨_, rfl⟩
  rw [hmore] at HM5
  have HMO : Hid (∀ x ∈ gf p.fl am, x ∈ more) := Lib.hid (fun x hx => by rw [← hmore, unionR_mem]; exact .inl hx)
  refine act_namedT (fun Z => Kept [] V Z ∧ Prs Z AM nM more) ⟨hkV5, HM5.out⟩ ?_
  rintro Z ⟨hkZ, hMZ⟩
  have B0Z := hkZ.blk (by simp) B0V
  have BGZ := hkZ.blk (by simp) Bg
  have ⟨L0Z, C0Z, F0Z⟩ := B0Z
  have hBZ : Below w.heap.size w Z := hkZ.below hBV hBV.size (by simp)
  have MZ := Lib.hid hMZ
  obtain ⟨me, hme⟩ : ∃ me, flErr p.F more = me := ⟨_, rfl⟩
  have HME := Lib.hid hme
  clear C0V F0V C1V F1V fmV hmore hMZ hme HM5 hHeld hkV5
  by_cases hm0 : me = 0
  case neg =>
    have hm0' : (me != 0) = true := by simpa using hm0
    clear hm0
    go_wp2_with (first | (go_at_call 37; refine (rfcheck_any AM nM cM p.F more _ MZ.out).mono ?_; rw [HME.out]; rintro e w6 ⟨rfl, hb6⟩) | (go_at_call 26; refine (knows_any _).mono ?_; rintro e w7 ⟨rfl, hb7⟩))
    go_ret
    exact ⟨rfl, (((Kept.refl [] Z).call hb6).call hb7).below hBZ hBZ.size (by simp)⟩
  subst hm0
  obtain ⟨i0, hi, hz0, hz1, hz2⟩ := info_parts flowi_info
  obtain ⟨rowv, hrowv⟩ : ∃ rowv : Nat → Option Addr × Nat × Nat, ∀ x, x < n3 → w.cell? ⟨bf, of_ + x, none⟩ = some (.slice (rowv x).1 (rowv x).2.1 (rowv x).2.2) ∧ (rowv x).2.1 ≤ (rowv x).2.2 ∧ Prs w (rowv x).1 (rowv x).2.1 (gf p.fl x) :=
    ⟨fun x => if h : x < n3 then ⟨(HCF.out x h).choose, (HCF.out x h).choose_spec.choose, (HCF.out x h).choose_spec.choose_spec.choose⟩ else (none, 0, 0), fun x hx => by simp only [dif_pos hx]; exact (HCF.out x hx).choose_spec.choose_spec.choose_spec⟩
  have HRO := Lib.hid hrowv
  obtain ⟨RV, hRV⟩ : ∃ RV : Nat → Value, RV = fun x => if x = am then .slice AM nM cM else .slice (rowv x).1 (rowv x).2.1 (rowv x).2.2 := ⟨_, rfl⟩
  have HRV := Lib.hid hRV
  clear hrowv hRV
  go_upto_region 8 with (go_at_call 37; refine (rfcheck_any AM nM cM p.F more _ MZ.out).mono ?_; rw [HME.out]; rintro e w6 ⟨rfl, hb6⟩)
  have hk6 : Kept [] Z w6 := (Kept.refl _ _).call hb6
  have B06 := hk6.blk (by simp) B0Z
  have BG6 := hk6.blk (by simp) BGZ
  have ⟨L06, C06, F06⟩ := B06
  have hB6 : Below w.heap.size w w6 := hk6.below hBZ hBZ.size (by simp)
  clear C0Z F0Z
  go_upto_region 11 with fail
  refine wp_named (fun U => ∃ gq, w6.heap.size = gq ∧ Blk U gq [.slice A1 n1 c1, .slice A2 n2 c2, .int .i64 p.mn, .int .i64 p.F, .slice none 0 0, .slice A4 n4 c4] ∧ Kept [] w6 U) ⟨_, rfl, Blk.new _ _ _ _ rfl, (Kept.refl _ _).alloc _⟩ ?_
  rintro U ⟨gq, eq_, Bq, hkU⟩
  rw [eq_]
  have B0U := hkU.blk (by simp) B06
  have BGU := hkU.blk (by simp) BG6
  have hBU : Below w.heap.size w U := hkU.below hB6 hB6.size (by simp)
  have hb0q : b0 ≠ gq := by have := B06.1; omega
  have hgq9 : g ≠ gq := by have := BG6.1; omega
  have hwq : w.heap.size ≤ gq := by have := hB6.size; omega
  have hgqU : gq < U.heap.size := Bq.1
  have HBQ := Lib.hid Bq
  have M6 := Lib.hid (MZ.out.later hk6.toBelow)
  have hgq6 : w6.heap.size ≤ gq := by omega
  have hVU : Kept [] V U := (hkZ.next hk6 (by simp)).next hkU (by simp)
  have ⟨L0U, C0U, F0U⟩ := B0U
  clear C06 F06 eq_ Bq
  go_wp2_with fail
  go_loopw [12] (fun s12 wr => ∃ (i : Nat) (Q : Option Addr) (cQ : Nat), i ≤ n3 ∧ s12 = .int .i64 i ∧ Kept [gq] U wr ∧ Hid (Blk wr gq [.slice A1 n1 c1, .slice A2 n2 c2, .int .i64 p.mn, .int .i64 p.F, .slice Q i cQ, .slice A4 n4 c4]) ∧ Hid (wr.ownsRow U.heap.size 67 1 (.slice Q i cQ) i ((List.range i).map RV))) (fun s12 _ => n3 - (intOf s12).toNat)
  case atStart => exact ⟨0, none, 0, Nat.zero_le _, rfl, Kept.refl _ _, HBQ, Lib.hid (World.ownsRow_nil _ _ _ _)⟩
  case round =>
  clear HBQ C0U F0U
  obtain ⟨i, Q, cQ, hi9', rfl, hkr, BQ, own⟩ := hrel
  have B0r := hkr.blk (by simpa using hb0q) B0U
  have ⟨L0r, C0r, F0r⟩ := B0r
  have ⟨Lqr, Cqr, Fqr⟩ := BQ.out
  have hBr : Below w.heap.size w wr := Kept.below hBU hBU.size (by simpa using hwq) hkr
  have hsz := hkr.size
  have hlfr : bf < wr.heap.size := Nat.lt_of_lt_of_le hlf hBr.size
  by_cases hlt : i < n3
  · have hi9 : (i : Int) < (n3 : Int) := by omega
    have HX : Hid (∀ y ∈ (Value.slice Q i cQ).ownBlock.toList, U.heap.size ≤ y) := (fun y hy => own_ge own.out (by simpa using hy))
    have xg : gq ∉ (Value.slice Q i cQ).ownBlock.toList := fun hm => by have := HX.out gq hm; omega
    have xb0 : b0 ∉ (Value.slice Q i cQ).ownBlock.toList := fun hm => by have := HX.out b0 hm; have := B0U.1; omega
    have xbf : bf ∉ (Value.slice Q i cQ).ownBlock.toList := fun hm => by have := HX.out bf hm; have := hBU.size; omega
    by_cases e : i = am
    · have z : ((i : Int) == (am : Int)) = true := by simp; omega
      have HAB : Hid ((List.range i).map RV ++ [Value.slice AM nM cM] = (List.range (i + 1)).map RV) := Lib.hid (by
        rw [List.range_succ, List.map_append]
        have : RV i = Value.slice AM nM cM := by rw [HRV.out]; exact if_pos e
        simp [this])
      clear e
      go_wp2_with (at_builtin; refine wpList_append_rd _ rfl _ _ 46 rfl U.heap.size 67 i0 (.slice none 0 0) 1 24 Try.underlying46 hi hz0 hz1 hz2 rfl (by decide) (.slice Q i cQ) i _ rfl (own_keptT (X := []) own.out ((Kept.refl _ _).alloc _) (by simp)) (some ⟨wr.heap.size, 0, none⟩) 1 1 [.slice AM nM cM] rfl (Rd.new1 _ _ _ _ rfl) (fun h => by cases h) (by intro u hu; simp at hu; subst hu; rfl) (i + 1) rfl _ HAB.out (by unfold maxLen; omega) (by omega) (by simp; omega) ?_; intro A9 c9 w4 hown4 hk4 hat4; have hkA : Kept (Value.slice Q i cQ).ownBlock.toList wr w4 := ((Kept.refl _ wr).alloc _).next hk4 (fun y hy => Or.inl hy); have ⟨LG4, CG4, FG4⟩ := hkA.blk xg BQ.out; have HO4 := Lib.hid hown4; have HKA := Lib.hid hkA; clear hown4 hk4 hat4)
      have hks : Kept [gq] w4 (w4.setCell ⟨gq, 4, none⟩ (.slice A9 (i + 1) c9)) := (Kept.refl [gq] w4).set gq 4 _ (.inl (by simp))
      exact ⟨⟨i + 1, A9, c9, by omega, by go_num, (hkr.next HKA.out (fun y hy => Or.inr (HX.out y hy))).next hks (fun y hy => Or.inl hy), Lib.hid ((HKA.out.blk xg BQ.out).set 4 _), Lib.hid (own_keptT HO4.out hks (fun y hy => by have := own_ge HO4.out hy; simp; omega))⟩, by simp [intOf]; omega⟩
    · have z : ((i : Int) == (am : Int)) = false := by simp; omega
      have HAB : Hid ((List.range i).map RV ++ [Value.slice (rowv i).1 (rowv i).2.1 (rowv i).2.2] = (List.range (i + 1)).map RV) := Lib.hid (by
        rw [List.range_succ, List.map_append]
        have : RV i = Value.slice (rowv i).1 (rowv i).2.1 (rowv i).2.2 := by rw [HRV.out]; exact if_neg e
        simp [this])
      have fi := (hBr.cell (p := ⟨bf, _, none⟩) hlf).trans (HRO.out i hlt).1
      have hgr : gq < wr.heap.size := Lqr
      clear e
      go_upto_region 15 with fail
      refine wp_region_E 10 (fun w' => SXw (Value.slice Q i cQ).ownBlock.toList gq b0 bf wr w') (by kernel_rfl) (by (first | (with_reducible assumption) | exact SXw.of (Kept.refl _ _).drew hgr L0r hlfr xg xb0 xbf | exact SXw.of (hHeld.1.alloc _) hgr L0r hlfr xg xb0 xbf | exact SXw.of HKA.out hgr L0r hlfr xg xb0 xbf)) (fun hHeld => ?_)
      refine WE_take 0 (v := ?_) rfl (by kernel_rfl) (fun _ _ _ h => h) (Or.inl ⟨by rfl, ?_⟩) (by assumption) ?_; rotate_left; (· intro w9 hSw; (try dsimp only at hSw); go_simp; try with_reducible rfl); (try simp only [Act.put, List.setIfInBounds_toArray, List.set_cons_zero, List.set_cons_succ])
      refine WE_take 1 (v := ?_) rfl (by kernel_rfl) (fun _ _ _ h => h) (Or.inl ⟨by rfl, ?_⟩) (by assumption) ?_; rotate_left; (· intro w9 hSw; (try dsimp only at hSw); go_simp; try with_reducible rfl); (try simp only [Act.put, List.setIfInBounds_toArray, List.set_cons_zero, List.set_cons_succ])
      refine WE_take 2 (v := ?_) rfl (by kernel_rfl) (fun _ _ _ h => h) (Or.inl ⟨by rfl, ?_⟩) (by assumption) ?_; rotate_left; (· intro w9 hSw; (try dsimp only at hSw); go_simp; try with_reducible rfl); (try simp only [Act.put, List.setIfInBounds_toArray, List.set_cons_zero, List.set_cons_succ])
      refine WE_take 3 (v := ?_) rfl (by kernel_rfl) (fun _ _ _ h => h) (Or.inl ⟨by rfl, ?_⟩) (by assumption) ?_; rotate_left; (· intro w9 hSw; (try dsimp only at hSw); go_simp; try with_reducible rfl); (try simp only [Act.put, List.setIfInBounds_toArray, List.set_cons_zero, List.set_cons_succ])
      refine WE_take 4 (v := ?_) rfl (by kernel_rfl) (fun _ _ _ h => h) (Or.inl ⟨by rfl, ?_⟩) (by assumption) ?_; rotate_left; (· intro w9 hSw; (try dsimp only at hSw); go_simp; try with_reducible rfl); (try simp only [Act.put, List.setIfInBounds_toArray, List.set_cons_zero, List.set_cons_succ])
      refine WE_take 5 (v := ?_) rfl (by kernel_rfl) (fun _ _ _ h => h) (Or.inl ⟨by rfl, ?_⟩) (by assumption) ?_; rotate_left; (· intro w9 hSw; (try dsimp only at hSw); go_simp; try with_reducible rfl); (try simp only [Act.put, List.setIfInBounds_toArray, List.set_cons_zero, List.set_cons_succ])
      refine WE_take 6 (v := ?_) rfl (by kernel_rfl) (fun _ _ _ h => h) (Or.inl ⟨by rfl, ?_⟩) (by assumption) ?_; rotate_left; (· intro w9 hSw; (try dsimp only at hSw); go_simp; try with_reducible rfl); (try simp only [Act.put, List.setIfInBounds_toArray, List.set_cons_zero, List.set_cons_succ])
      refine WE_step 7 rfl (by kernel_rfl) (fun K hK => ?_)
      go_simp
      refine hK.out _ _ ?_ (fun hHeld => ?_)
      · (first | (with_reducible assumption) | exact SXw.of (Kept.refl _ _).drew hgr L0r hlfr xg xb0 xbf | exact SXw.of (hHeld.1.alloc _) hgr L0r hlfr xg xb0 xbf | exact SXw.of HKA.out hgr L0r hlfr xg xb0 xbf)
      clear hK K
      try simp only [Act.put, List.setIfInBounds_toArray, List.set_cons_zero, List.set_cons_succ]
      refine WE_step 8 rfl (by kernel_rfl) (fun K hK => ?_)
      (refine step_append_rd _ rfl _ _ 46 rfl U.heap.size 67 i0 (.slice none 0 0) 1 24 Try.underlying46 hi hz0 hz1 hz2 rfl (by decide) (.slice Q i cQ) i _ rfl (own_keptT (X := []) own.out (((Kept.refl [] wr).drew).alloc _) (by simp)) (some ⟨wr.heap.size, 0, none⟩) 1 1 [.slice (rowv i).1 (rowv i).2.1 (rowv i).2.2] rfl (Rd.new1 _ _ _ _ rfl) (fun h => by cases h) (by intro u hu; simp at hu; subst hu; rfl) (i + 1) rfl _ HAB.out (by unfold maxLen; omega) (by omega) (by simp; omega) ?_; intro A9 c9 w4 hown4 hk4 hat4; have hkA : Kept (Value.slice Q i cQ).ownBlock.toList wr w4 := (((Kept.refl _ wr).drew).alloc _).next hk4 (fun y hy => Or.inl hy); have ⟨LG4, CG4, FG4⟩ := hkA.blk xg BQ.out; have HO4 := Lib.hid hown4; have HKA := Lib.hid hkA; clear hown4 hk4 hat4)
      refine hK.out _ _ ?_ (fun hHeld => ?_)
      · (first | (with_reducible assumption) | exact SXw.of (Kept.refl _ _).drew hgr L0r hlfr xg xb0 xbf | exact SXw.of (hHeld.1.alloc _) hgr L0r hlfr xg xb0 xbf | exact SXw.of HKA.out hgr L0r hlfr xg xb0 xbf)
      clear hK K
      try simp only [Act.put, List.setIfInBounds_toArray, List.set_cons_zero, List.set_cons_succ]
      refine WE_take 9 (v := ?_) rfl (by kernel_rfl) (fun _ _ _ h => h) (Or.inl ⟨by rfl, ?_⟩) (by assumption) ?_; rotate_left; (· intro w9 hSw; (try dsimp only at hSw); go_simp; try with_reducible rfl); (try simp only [Act.put, List.setIfInBounds_toArray, List.set_cons_zero, List.set_cons_succ])
      refine WE_last rfl (by kernel_rfl) (fun K hK => ?_)
      go_simp
      refine hK.out _ _ ?_
      clear hK K
      go_wp2_with fail
      have hks : Kept [gq] w4 (w4.setCell ⟨gq, 4, none⟩ (.slice A9 (i + 1) c9)) := (Kept.refl [gq] w4).set gq 4 _ (.inl (by simp))
      exact ⟨⟨i + 1, A9, c9, by omega, by go_num, (hkr.next HKA.out (fun y hy => Or.inr (HX.out y hy))).next hks (fun y hy => Or.inl hy), Lib.hid ((HKA.out.blk xg BQ.out).set 4 _), Lib.hid (own_keptT HO4.out hks (fun y hy => by have := own_ge HO4.out hy; simp; omega))⟩, by simp [intOf]; omega⟩
  obtain rfl : i = n3 := by omega
  have hfll := HFL.out
  have hFQ : Hid (Flw wr Q i (swapFl p am more).fl) := Lib.hid (by
    refine ⟨by show ((List.range p.fl.length).map _).length = i; rw [List.length_map, List.length_range]; exact hfll, fun h0 => ?_⟩
    obtain ⟨q, cq, hv, hbq, hql, -, -, hcell, -⟩ := own_cellsT own.out h0
    injection hv with e1 e2 e3
    refine ⟨q, 0, e1, hql, fun x hx => ?_⟩
    have hgx : gf (swapFl p am more).fl x = if x = am then more else gf p.fl x := gfl_mk (by rw [hfll]; exact hx) _
    rw [Nat.zero_add, hcell x (by omega), hgx]
    have hRx : ((List.range i).map RV)[x]? = some (RV x) := by simp [hx]
    rw [hRx, HRV.out]
    by_cases e : x = am
    · simp only [if_pos e]
      exact ⟨AM, nM, cM, rfl, hnM, M6.out.later (Kept.below hkU.toBelow hkU.size (by simpa using hgq6) hkr)⟩
    · simp only [if_neg e]
      obtain ⟨-, h2, h3⟩ := HRO.out x hx
      exact ⟨_, _, _, rfl, h2, h3.later hBr⟩)
  have HPQ := Lib.hid (swap_err (m := am) (ok_of HPB.out) HME.out)
  have HGR := Lib.hid (HG.out.later hBr)
  have HSR := Lib.hid (HS.out.later hBr)
  have BGr := hkr.blk (by simpa using hgq9) BGU
  have hWI := sol_within (p := p) (q := swapFl p am more) rfl (fun a n d h => swap_grow (ok_of HPB.out) HMO.out h) (N := n1)
  have HWI := Lib.hid hWI
  clear hWI hfll
  go_upto_region 17 with (go_at_call 28; refine (solve_any (p := swapFl p am more) A1 A2 Q A4 n1 c1 n2 c2 i cQ n4 c4 _ HGR.out hFQ.out HSR.out hn20 0 HPQ.out rfl).mono ?_; rintro e w7 ⟨T1, T2, n, rfl, hn, hr7, hf7, hb7⟩; obtain rfl : n1 = n := HG.out.nd.1.symm.trans hn.symm; clear hn)
  refine wp_named (fun V3 => ∃ g3, w7.heap.size = g3 ∧ Blk V3 g3 [.slice T1 n1 n1, .slice T2 n1 n1] ∧ Kept [] w7 V3) ⟨_, rfl, Blk.new _ _ _ _ rfl, (Kept.refl _ _).alloc _⟩ ?_
  rintro V3 ⟨g3, eg3, Bg3, hkV3⟩
  rw [eg3]
  have hkr3 : Kept [] wr V3 := ((Kept.refl [] wr).call hb7).next hkV3 (by simp)
  have ⟨LG3, CG3, FG3⟩ := Bg3
  have ⟨LGr3, CGr3, FGr3⟩ := hkr3.blk (by simp) BGr
  have hB3 : Below w.heap.size w V3 := hkr3.below hBr hBr.size (by simp)
  have hVr : Below V.heap.size V wr := Kept.below hVU.toBelow hVU.size (by have := hkZ.size; have := hk6.size; simp; omega) hkr
  have hV3 : Below V.heap.size V V3 := hkr3.below hVr hVr.size (by simp)
  have X1 := Lib.hid (HR3.out.later hV3)
  have X2 := Lib.hid (HF3.out.later hV3)
  have Y1 := Lib.hid (hr7.later hkV3.toBelow)
  have Y2 := Lib.hid (hf7.later hkV3.toBelow)
  clear C0r F0r Cqr Fqr eg3 hr7 hf7
  go_wp2_with (first
    | (go_at_call 38; refine (within_ok S1 S2 T1 T2 n1 n1 n1 n1 n1 n1 n1 n1 _ _ _ _ _ X1.out X2.out Y1.out Y2.out hn140 hn140 hn140 hn140 HWI.out.1 HWI.out.2).mono ?_; rintro e w8 ⟨rfl, hb8⟩)
    | (go_at_call 26; refine (knows_any _).mono ?_; rintro e w9 ⟨rfl, hb9⟩))
  go_ret
  exact ⟨rfl, (((Kept.refl [] V3).call hb8).call hb9).below hB3 hB3.size (by simp)⟩
end Go.Proofs.Ytffkikhknabddaa
