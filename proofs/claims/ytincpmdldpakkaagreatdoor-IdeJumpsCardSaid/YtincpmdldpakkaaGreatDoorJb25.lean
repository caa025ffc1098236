/- Texts: Cy Cz Al Am. -/
import Derived.Test.YtincpmdldpakkaaGreatDoorJb24
namespace Go.Proofs.YtincpmdldpakkaaGreatDoor
open Go.RowKit Go.Df Go.Df.Iv Go.Df.Sp
attribute [local go_sem ↓] Go.wp_at_zero Go.wp_at_succ
theorem xform_info : (Tryz.prog.info? 71).map (fun i => (i.zero, i.size, i.bytes)) = some (some (.agg #[.int .i64 0, .int .i64 0, .int .i64 0]), 3, 24) := by kernel_rfl
theorem rowx_info : (Tryz.prog.info? 194).map (fun i => (i.zero, i.size, i.bytes)) = some (some (.slice none 0 0), 1, 24) := by kernel_rfl
def GetJ (p : Vb) (K : Kn) (mN f : Nat) (w : World) (e : Ending) (w' : World) : Prop :=
 ∃ (go cN : Nat) (rw rc : Nat → Nat) (T : Nat → Nat → Nat → D), e = .returned (.agg #[.slice K.A1 K.n1 K.c1, .slice K.A2 K.n2 K.c2, .int .i64 (mN : Nat), .int .i64 (f : Nat), .slice K.A3 K.n3 K.c3, .slice K.A4 K.n4 K.c4, .slice (some ⟨go, 0, none⟩) K.n1 cN]) ∧ Tw p K.n1 f w' go rw rc T ∧ Clo p T ∧ Snd p T ∧ Below w.heap.size w w' ∧ (∀ n, n < K.n1 → w.heap.size ≤ rw n) ∧ w.heap.size ≤ go
set_option maxRecDepth 100000 in
set_option maxHeartbeats 80000000 in
theorem rjump_any {p : Vb} {K : Kn} (w : World) (mN f : Nat) (hI : Inp p K w) (ho : VOk p) (hfit : VFit p) (hmn : p.mn = (mN : Int)) (hF : p.F = (f : Int)) (hn4 : K.n4 ≤ 1000000) :
   Calls Tryz.prog 56 #[.agg #[.slice K.A1 K.n1 K.c1, .slice K.A2 K.n2 K.c2, .int .i64 (mN : Nat), .int .i64 (f : Nat), .slice K.A3 K.n3 K.c3, .slice K.A4 K.n4 K.c4]] w (GetJ p K mN f w) := by
 obtain ⟨i0, hi, hz0, hz1, hz2⟩ := info_parts xform_info
 obtain ⟨i1, hj, hy0, hy1, hy2⟩ := info_parts rowx_info
 have hN1 : K.n1 = p.ns.length := hI.nd.1.symm
 have hN8 : K.n1 ≤ 8192 := by have := (If.sup_parts ho.sup).1; omega
 have hE8 : K.n2 ≤ 32768 := by have := (If.sup_parts ho.sup).2.1; have := hI.ed.1; omega
 have hf8 : f ≤ 1024 := by have := ho.f2; omega
 have hf1 : 0 < f := by have := ho.f1; omega
 have hmain := If.main_in (If.sup_parts ho.sup).2.2.1
 have hmN : mN < K.n1 := by omega
 have hN0 : 0 < K.n1 := by omega
 have hm1 : f * f ≤ 1024 * 1024 := Nat.mul_le_mul hf8 hf8
 have hm0 : 0 < f * f := Nat.mul_pos hf1 hf1
 obtain ⟨m, hm⟩ : ∃ m, f * f = m := ⟨_, rfl⟩
 have hmul : (f : Int) * (f : Int) = (m : Int) := by rw [← hm]; simp
 rw [hm] at hm1 hm0
 have HM := Lib.hid hm
 have x1 : IntKind.i64.wrap ((f : Int) * (f : Int)) = (m : Int) := by rw [hmul]; exact IntWalk.i64_in _ (by omega)
 have HI := Lib.hid hI
 have HO := Lib.hid ho
 have HFI := Lib.hid hfit
 have HMN := Lib.hid hmn
 have HEF := Lib.hid hF
 have HEN := Lib.hid hN1
 have HES := Lib.hid hI.ed.1
 clear hm hmul hI ho hfit hmn hF hN1 hmain
 go_enter Tryz.func56, Tryz.ntmps56
 go_upto_region 1 with fail
 refine wp_named (fun W => ∃ b0 b1, w.heap.size = b0 ∧ w.heap.size + 1 = b1 ∧ Blk W b0 [.slice K.A1 K.n1 K.c1, .slice K.A2 K.n2 K.c2, .int .i64 (mN : Nat), .int .i64 (f : Nat), .slice K.A3 K.n3 K.c3, .slice K.A4 K.n4 K.c4] ∧ Blk W b1 [.slice none 0 0, .slice none 0 0, .int .i64 0, .int .i64 0, .slice none 0 0, .slice none 0 0, .slice none 0 0] ∧ Below w.heap.size w W) ⟨_, _, rfl, rfl, ?_, ?_, ?_⟩ ?_
 · exact (Blk.new _ _ _ _ (by first | rfl | simp)).alloc _
 · exact kbn
 · go_grown
 rintro W ⟨b0, b1, e0, e1, B0, B1, hB⟩
 rw [e1, e0]
 have G0 : w.heap.size ≤ b0 := by omega
 have n01 : b0 ≠ b1 := by omega
 have G1 : w.heap.size ≤ b1 := by omega
 have n10 : b1 ≠ b0 := by omega
 clear e0 e1
 have ⟨L0, C0, F0⟩ := B0
 have ⟨L1, C1, F1⟩ := B1
 go_upto_region 2 with fail
 refine wp_named (fun V => ∃ g, W.heap.size = g ∧ Blk V g [.slice K.A1 K.n1 K.c1, .slice K.A2 K.n2 K.c2, .int .i64 (mN : Nat), .int .i64 (f : Nat), .slice K.A3 K.n3 K.c3, .slice K.A4 K.n4 K.c4, .slice none 0 0] ∧ Kept [] W V) ⟨_, rfl, Blk.new _ _ _ _ rfl, (Kept.refl _ _).alloc _⟩ ?_
 rintro V ⟨g, eg, Bg, hkV⟩
 rw [eg]
 have hgV : g < V.heap.size := Bg.1
 have hb0g : b0 ≠ g := by omega
 have hb1g : b1 ≠ g := by omega
 have hgw : w.heap.size ≤ g := by have := hB.size; omega
 have hgW : W.heap.size ≤ g := by omega
 have B0V := hkV.blk (by simp) B0
 have HB1V := Lib.hid (hkV.blk (by simp) B1)
 have hwV : Kept [] w V := ((Kept.refl [] w).call hB).next hkV (by simp)
 have HBg := Lib.hid Bg
 have ⟨L0V, C0V, F0V⟩ := B0V
 clear C0 F0 C1 F1 eg Bg
 go_wp2_with fail
 go_loopw [4] (fun s4 wr => ∃ (n : Nat) (A : Option Addr) (cA : Nat) (bs rc : Nat → Nat), n ≤ K.n1 ∧ s4 = .int .i64 n ∧ Kept [g] V wr ∧ Hid (Blk wr g [.slice K.A1 K.n1 K.c1, .slice K.A2 K.n2 K.c2, .int .i64 (mN : Nat), .int .i64 (f : Nat), .slice K.A3 K.n3 K.c3, .slice K.A4 K.n4 K.c4, .slice A n cA]) ∧ Hid (wr.ownsRow V.heap.size 194 1 (.slice A n cA) n ((List.range n).map fun x => Value.slice (some ⟨bs x, 0, none⟩) m (rc x))) ∧ Hid (EmV (.int .i64 0) V.heap.size 71 (m * 3) bs n wr)) (fun s4 _ => K.n1 - (intOf s4).toNat)
 case atStart => exact ⟨0, none, 0, fun _ => 0, fun _ => 0, Nat.zero_le _, rfl, Kept.refl _ _, HBg, Lib.hid (World.ownsRow_nil _ _ _ _), Lib.hid ⟨fun x h => absurd h (by omega), fun x y h => absurd h (by omega)⟩⟩
 case round =>
 clear C0V F0V HBg
 obtain ⟨n, A, cA, bs, rc, hn, rfl, hkr, BG, own, EM⟩ := hrel
 have BR0 := hkr.blk (by simpa using hb0g) B0V
 have ⟨L0r, C0r, F0r⟩ := BR0
 have hsz := hkr.size
 by_cases hlt : n < K.n1
 case pos =>
   have hn9 : (n : Int) < (K.n1 : Int) := by omega
   have HXA : Hid (∀ y ∈ (Value.slice A n cA).ownBlock.toList, V.heap.size ≤ y) := (fun y hy => own_ge own.out (by simpa using hy))
   have xg : g ∉ (Value.slice A n cA).ownBlock.toList := fun hm => by have := HXA.out g hm; omega
   go_wp2_with fail
   go_loopw [5, 6] (fun s5 s6 wq => ∃ (j : Nat) (A' : Option Addr) (c' : Nat), j ≤ m ∧ s5 = .slice A' j c' ∧ s6 = .int .i64 j ∧ Kept [] wr wq ∧ Hid (wq.ownsRow wr.heap.size 71 3 (.slice A' j c') j (List.replicate (j * 3) (Value.int .i64 0)))) (fun _ s6 _ => m - (intOf s6).toNat)
   case atStart => exact ⟨0, none, 0, Nat.zero_le _, rfl, rfl, Kept.refl _ _, Lib.hid (World.ownsRow_nil _ _ _ _)⟩
   case round =>
   rename World => wq
   clear C0r F0r
   obtain ⟨j, A', c', hj', rfl, rfl, hkq, ownq⟩ := hrel
   have ⟨L0q, C0q, F0q⟩ := hkq.blk (by simp) BR0
   have hsq := hkq.size
   by_cases hltj : j < m
   · have HAP := Lib.hid (rep_snoc3 (Value.int .i64 0) j)
     have hj9 : (j : Int) < (m : Int) := by omega
     go_wp2_with (at_builtin; refine wpList_append_rd _ rfl _ _ 194 rfl wr.heap.size 71 i0 (.agg #[.int .i64 0, .int .i64 0, .int .i64 0]) 3 24 Tryz.underlying194 hi hz0 hz1 hz2 rfl (by decide) (.slice A' j c') j (List.replicate (j * 3) (Value.int .i64 0)) rfl (own_keptT (X := []) ownq.out ((Kept.refl _ _).alloc _) (by simp)) (some ⟨wq.heap.size, 0, none⟩) 1 1 [.int .i64 0, .int .i64 0, .int .i64 0] rfl (Rd.new3 _ _ _ _ _ _ rfl) (fun h => by cases h) (by intro u hu; simp at hu; subst hu; rfl) (j + 1) rfl (List.replicate ((j + 1) * 3) (Value.int .i64 0)) HAP.out (by unfold maxLen; omega) (by omega) (by simp; omega) ?_; intro A9 c9 w4 hown4 hk4 hat4; have HX : Hid (∀ y ∈ (Value.slice A' j c').ownBlock.toList, wr.heap.size ≤ y) := (fun y hy => own_ge ownq.out (by simpa using hy)); have hk5 := Lib.hid ((hkq.alloc (.cells #[.int .i64 0, .int .i64 0, .int .i64 0] 71)).next hk4 (fun y hy => Or.inr (HX.out y hy))); have HO4 := Lib.hid hown4; clear hown4 hk4 hat4)
     exact ⟨⟨j + 1, A9, c9, by omega, rfl, by go_num, hk5.out, HO4⟩, by simp [intOf]; omega⟩
   obtain rfl : j = m := by omega
   obtain ⟨g', cr, hv, hbr, hgl, -, -, hcell, -⟩ := own_cellsT ownq.out hm0
   have htg : Tag wq g' 71 := own_tag ownq.out (by rw [hv]; rfl)
   injection hv with e1 e2 e3
   subst e1
   subst e3
   have HCL : Hid (∀ i, i < j * 3 → wq.cell? ⟨g', i, none⟩ = some (.int .i64 0)) := Lib.hid (fun i hi => by rw [hcell i hi, List.getElem?_replicate, if_pos hi])
   have HTG := Lib.hid htg
   have OWQ := Lib.hid (own_keptT (X := []) own.out hkq (by simp))
   have ⟨LGq, CGq, FGq⟩ := hkq.blk (by simp) BG.out
   have BGq := Lib.hid (hkq.blk (by simp) BG.out)
   have EMq := Lib.hid (EM.out.kept hkq (by simp))
   have HAB := Lib.hid (rows_snoc bs rc j n g' c')
   have hgq : g < wq.heap.size := by omega
   clear hcell htg
   go_wp2_with (at_builtin; refine wpList_append_rd _ rfl _ _ 139 rfl V.heap.size 194 i1 (.slice none 0 0) 1 24 Tryz.underlying139 hj hy0 hy1 hy2 rfl (by decide) (.slice A n cA) n _ rfl (own_keptT (X := []) OWQ.out ((Kept.refl _ _).alloc _) (by simp)) (some ⟨wq.heap.size, 0, none⟩) 1 1 [.slice (some ⟨g', 0, none⟩) j c'] rfl (Rd.new1 _ _ _ _ rfl) (fun h => by cases h) (by intro u hu; simp at hu; subst hu; rfl) (n + 1) rfl _ HAB.out (by unfold maxLen; omega) (by omega) (by simp; omega) ?_; intro A9 c9 w4 hown4 hk4 hat4; have hkA : Kept (Value.slice A n cA).ownBlock.toList wq w4 := ((Kept.refl _ wq).alloc _).next hk4 (fun y hy => Or.inl hy); have ⟨LG4, CG4, FG4⟩ := hkA.blk xg BGq.out; have HO4 := Lib.hid hown4; have HKA := Lib.hid hkA; clear hown4 hk4 hat4)
   have hks : Kept [g] w4 (w4.setCell ⟨g, 6, none⟩ (.slice A9 (n + 1) c9)) := (Kept.refl [g] w4).set g 6 _ (.inl (by simp))
   have hbA : ∀ x, x < n + 1 → updN bs n g' x ∉ (Value.slice A n cA).ownBlock.toList := fun x hx hm => by
     have h1 : (Value.slice A n cA).ownBlock = some (updN bs n g' x) := by simpa using hm
     have h2 := own_tag OWQ.out h1
     unfold updN at h2
     by_cases e : x = n
     · rw [if_pos e] at h2; exact absurd rfl (HTG.out.ne h2 (by decide))
     · rw [if_neg e] at h2; exact absurd rfl ((EMq.out.1 x (by omega)).2.1.ne h2 (by decide))
   have EM2 := EMq.out.snoc (g := g') (by omega) HTG.out HCL.out (fun x hx e => by
     have h1 := (EM.out.1 x hx).2.1.lt
     omega)
   have EM3 := (EM2.kept HKA.out hbA).kept hks (fun x hx => by have h1 := (EM2.1 x hx).1; simp; omega)
   have OW3 := own_keptT HO4.out hks (fun y hy => by have := own_ge HO4.out hy; simp; omega)
   exact ⟨⟨n + 1, A9, c9, updN bs n g', updN rc n c', by omega, by go_num, ((hkr.next hkq (by simp)).next HKA.out (fun y hy => Or.inr (HXA.out y hy))).next hks (fun y hy => Or.inl hy), Lib.hid ((HKA.out.blk xg BGq.out).set 6 _), Lib.hid OW3, Lib.hid EM3⟩, by simp [intOf]; omega⟩
 obtain rfl : n = K.n1 := by omega
 have ⟨LGr, CGr, FGr⟩ := BG.out
 obtain ⟨go, cr, hv, hbr, hgl, -, -, hcell, -⟩ := own_cellsT own.out hN0
 have htr : Tag wr go 194 := own_tag own.out (by rw [hv]; rfl)
 injection hv with e1 e2 e3
 subst e1
 subst e3
 have TWR : Hid (Tw p K.n1 f wr go bs rc (fun _ _ _ => top)) := by
   refine ⟨hgl, fun x hx => ?_, fun x a d hx ha hd => ?_, fun x i hx => (EM.out.1 x hx).2.1.frozen i, fun x hx => (EM.out.1 x hx).2.1.lt, fun x y hx hy e => EM.out.2 x y hx hy e, fun x hx => (EM.out.1 x hx).2.1.ne htr (by decide), fun _ _ _ _ => rfl⟩
   · rw [hcell x (by omega), HM.out]
     simp [hx]
   · have h1 := idx_lt ha hd
     rw [HM.out] at h1
     exact ⟨(EM.out.1 x hx).2.2 _ (by omega), (EM.out.1 x hx).2.2 _ (by omega), (EM.out.1 x hx).2.2 _ (by omega)⟩
 have hbsV : ∀ x, x < K.n1 → V.heap.size ≤ bs x := fun x hx => (EM.out.1 x hx).1
 have hwr : Kept [] w wr := kept_fresh hwV hkr (by simpa using hgw)
 have hVw := hwV.size
 have HRI : Hid (Rin p K w K.n1 f go bs) := Lib.hid ⟨HI.out, HO.out, HFI.out, HEN.out, rfl, HEF.out, fun x hx => by have := hbsV x hx; omega, by omega⟩
 have SB0 : Hid (SafeB (RowO K.n1 bs) wr b0) := ⟨L0r, fun ⟨x, hx, e⟩ => by have := hbsV x hx; have := L0V; omega⟩
 have SBg : Hid (SafeB (RowO K.n1 bs) wr g) := ⟨LGr, fun ⟨x, hx, e⟩ => by have := hbsV x hx; omega⟩
 have SB1 : Hid (SafeB (RowO K.n1 bs) wr b1) := ⟨(hkr.blk (by simpa using hb1g) HB1V.out).1, fun ⟨x, hx, e⟩ => by have := hbsV x hx; have := HB1V.out.1; omega⟩
 have HB1r := Lib.hid (hkr.blk (by simpa using hb1g) HB1V.out)
 have HLR := Lib.hid hwr.toBelow
 have hbs : Hid (∀ x, RowO K.n1 bs x → w.heap.size ≤ x) := fun x ⟨n, hn, e⟩ => by have := hbsV n hn; omega
 have HGO : Hid (w.heap.size ≤ go) := Lib.hid (by show _ ≤ _; omega)
 have HBSW : Hid (∀ x, x < K.n1 → w.heap.size ≤ bs x) := Lib.hid (fun x hx => by have := hbsV x hx; omega)
 have SGO : Hid (SafeB (RowO K.n1 bs) wr go) := ⟨hgl, fun ⟨x, hx, e⟩ => (EM.out.1 x hx).2.1.ne htr (by decide) e.symm⟩
 clear hcell htr own EM
 have HINC : Hid (∀ w9, Kept [] wr w9 → Calls Tryz.prog 102 #[.agg #[.slice K.A1 K.n1 K.c1, .slice K.A2 K.n2 K.c2, .int .i64 (mN : Nat), .int .i64 (f : Nat), .slice K.A3 K.n3 K.c3, .slice K.A4 K.n4 K.c4, .slice (some ⟨go, 0, none⟩) K.n1 cA], .int .i64 0, .int .i64 (mN : Nat), .int .i64 0, .agg #[.int .i64 2, .int .i64 0, .int .i64 0]] w9 fun e w' => ∃ bb, e = .returned (.bool bb) ∧ Tw p K.n1 f w' go bs rc (tput (fun _ _ _ => top) mN 0 0 (meet top shift)) ∧ Fx (RowO K.n1 bs) (RowO K.n1 bs) wr w') := fun w9 hk9 =>
   (rinc_any w9 0 mN 0 shift (TWR.out.keep hk9) hmN hf1 hf1 hf8 rfl).mono (fun e w' ⟨h1, h2, h3⟩ => ⟨_, h1, h2, (Fx.same hk9).trans (RowO.fx hmN h3)⟩)
 go_upto_region 11 with fail
 refine wp_region_E 5 (fun w' => SX0 wr w') (by kernel_rfl) (by (exact kp0)) (fun hHeld => ?_)
 refine WE_tk 0 ?_
 refine WE_tk 1 ?_
 refine WE_tk 2 ?_
 refine WE_tk 3 ?_
 refine WE_step 4 rfl (by kernel_rfl) (fun K hK => ?_)
 go_simp
 (first | (go_at_call 103; refine (rshift_any _).mono ?_; rintro e w5 ⟨rfl, hb5⟩) | (go_at_call 102; refine (HINC.out _ (by (exact kpt0))).mono ?_; rintro e w7 ⟨bb, rfl, hT7, hF7⟩))
 (try go_wp2_with fail)
 refine hK.out _ _ ?_ (fun hHeld => ?_)
 · (exact kp0)
 clear hK K
 refine WE_put ?_
 refine WE_last rfl (by kernel_rfl) (fun K hK => ?_)
 go_simp
 (first | (go_at_call 103; refine (rshift_any _).mono ?_; rintro e w5 ⟨rfl, hb5⟩) | (go_at_call 102; refine (HINC.out _ (by (exact kpt0))).mono ?_; rintro e w7 ⟨bb, rfl, hT7, hF7⟩))
 (try go_wp2_with fail)
 refine hK.out _ _ ?_
 clear hK K
 have HT7 := Lib.hid hT7
 have HF7 := Lib.hid hF7
 have HS7 : Hid (Snd p (tput (fun _ _ _ => top) mN 0 0 (meet top shift)) ∧ le (tput (fun _ _ _ => top) mN 0 0 (meet top shift) p.mn.toNat 0 0) shift) := by
   refine ⟨fun Y hY n' a' d' => ?_, ?_⟩
   · unfold tput
     split
     · rename_i h
       obtain ⟨rfl, rfl, rfl⟩ := h
       rw [top_meet]
       have h9 := hY.main
       rw [HMN.out, Int.toNat_natCast] at h9
       exact h9
     · exact le_top _
   · rw [HMN.out, Int.toNat_natCast, tput_at, top_meet]
     exact le_refl _
 obtain ⟨V7, hV7⟩ : ∃ V, V = w7 := ⟨_, rfl⟩
 subst hV7
 clear hT7 hF7 C0r F0r CGr FGr
 obtain ⟨PM, hPM⟩ : ∃ PM : Nat → World → Prop, PM = fun u wx => ∃ T, Tw p K.n1 f wx go bs rc T ∧ Snd p T ∧ le (T p.mn.toNat 0 0) shift ∧ muT p T = u := ⟨_, rfl⟩
 have HPM := Lib.hid hPM
 have hPM0 : Hid (∃ u, PM u V7) := Lib.hid (by rw [hPM]; exact ⟨_, _, HT7.out, HS7.out.1, HS7.out.2, rfl⟩)
 clear hPM
 have ⟨L07, C07, F07⟩ := SB0.out.blk HF7.out BR0
 have ⟨Lg7, Cg7, Fg7⟩ := SBg.out.blk HF7.out BG.out
 go_wp2_with fail
 go_loopw [7] (fun s7 wx => ∃ (mo : Bool), s7 = .bool mo ∧ Hid (Fx (RowO K.n1 bs) (RowO K.n1 bs) wr wx) ∧ Hid (mo = true → ∃ u, PM u wx) ∧ Hid (mo = false → ∃ T', Tw p K.n1 f wx go bs rc T' ∧ Clo p T' ∧ Snd p T')) (fun s7 wx => 2 * leastM PM wx + truthOf s7)
 case atStart => exact ⟨true, rfl, HF7, Lib.hid (fun _ => hPM0.out), Lib.hid (fun h => by cases h)⟩
 case round =>
 rename World => wx
 clear C07 F07 Cg7 Fg7 HT7 HS7
 obtain ⟨mo, rfl, FX, hex, hdone⟩ := hrel
 have B0x := SB0.out.blk FX.out BR0
 have Bgx := SBg.out.blk FX.out BG.out
 have ⟨L0x, C0x, F0x⟩ := B0x
 have ⟨Lgx, Cgx, Fgx⟩ := Bgx
 have HLX := Lib.hid (FX.out.below HLR.out hbs.out)
 cases mo with
 | false =>
   have HD := Lib.hid (hdone.out rfl)
   have ⟨L1x, C1x, F1x⟩ := SB1.out.blk FX.out HB1r.out
   have B1x := SB1.out.blk FX.out HB1r.out
   clear hdone hex
   go_wp2_with fail
   refine retNamedT (fun Y => Blk Y b1 [.slice K.A1 K.n1 K.c1, .slice K.A2 K.n2 K.c2, .int .i64 (mN : Nat), .int .i64 (f : Nat), .slice K.A3 K.n3 K.c3, .slice K.A4 K.n4 K.c4, .slice (some ⟨go, 0, none⟩) K.n1 cA] ∧ Kept [b1] wx Y) ⟨((((((B1x.set 0 _).set 1 _).set 2 _).set 3 _).set 4 _).set 5 _).set 6 _, ?_⟩ ?_
   · repeat' first | (with_reducible exact Kept.refl _ _) | (with_reducible refine Kept.set ?_ _ _ _ (Or.inl (by simp)))
   rintro Y ⟨BY, hkY⟩
   have ⟨LY, CY, FY⟩ := BY
   obtain ⟨T', h1, h2, h3⟩ := HD.out
   have hgo1 : go ∉ [b1] := fun hm => by have := HB1V.out.1; have : go = b1 := by simpa using hm
                                         omega
   have hbs1 : ∀ x, x < K.n1 → bs x ∉ [b1] := fun x hx hm => (SB1.out).2 ⟨x, hx, by have : bs x = b1 := by simpa using hm
                                                                                    exact this.symm⟩
   refine bodyPost_ret (by simp [results, Tryz.results56, go_sem, CY]; try rfl) rfl ?_
   exact ⟨go, cA, bs, rc, T', rfl, h1.kept hkY hgo1 hbs1, h2, h3, hkY.below HLX.out HLX.out.size (by simpa using G1), HBSW.out, HGO.out⟩
 | true =>
 have hsp := leastM_spec (hex.out rfl)
 obtain ⟨lv, hlv⟩ : ∃ lv, leastM PM wx = lv := ⟨_, rfl⟩
 rw [hlv] at hsp
 have HLV := Lib.hid hlv
 rw [show PM = _ from HPM.out] at hsp
 obtain ⟨T0, hT0, hs0, hmm0, hu0⟩ := hsp
 have TX := Lib.hid hT0
 have HS0 := Lib.hid hs0
 have HM0 := Lib.hid hmm0
 have HU0 := Lib.hid hu0
 clear hlv hT0 hs0 hmm0 hu0 hex hdone
 have HSEED : Hid (∀ w9, Kept [] wx w9 → Calls Tryz.prog 104 #[.agg #[.slice K.A1 K.n1 K.c1, .slice K.A2 K.n2 K.c2, .int .i64 (mN : Nat), .int .i64 (f : Nat), .slice K.A3 K.n3 K.c3, .slice K.A4 K.n4 K.c4, .slice (some ⟨go, 0, none⟩) K.n1 cA]] w9 (GetR p K.n1 f go bs rc wx T0 (∀ u ∈ p.sd, T0 u.n.toNat 0 0 ≠ top → le (T0 u.n.toNat 0 u.f.toNat) (sx u)))) := fun w9 hk9 =>
   (rseeded_any w9 HRI.out (HLX.out.trans (hk9.toBelow.mono HLX.out.size)) (TX.out.keep hk9) hn4).mono (fun e w' h9 => h9.from hk9)
 go_upto_region 15 with (go_at_call 104; refine (HSEED.out _ (by (exact kpt0))).mono ?_; rintro e w1 ⟨m1, T1, rfl, hT1, hF1, hR1, hQ1⟩)
 have TW1 := Lib.hid hT1
 have FX1 := Lib.hid (FX.out.trans hF1)
 have HR1 := Lib.hid hR1
 have HQ1 := Lib.hid hQ1
 have ⟨L01, C01, F01⟩ := SB0.out.blk FX1.out BR0
 have ⟨Lg1, Cg1, Fg1⟩ := SBg.out.blk FX1.out BG.out
 clear C0x F0x Cgx Fgx hT1 hF1 hR1 hQ1
 go_wp2_with fail
 go_loopw [7, 8] (fun s7 s8 wq => ∃ (k : Nat) (mk : Bool) (Tk : Nat → Nat → Nat → D), k ≤ K.n2 ∧ s8 = .int .i64 k ∧ s7 = .bool mk ∧ Hid (Tw p K.n1 f wq go bs rc Tk) ∧ Hid (Fx (RowO K.n1 bs) (RowO K.n1 bs) wr wq) ∧ Hid (Rs p T0 Tk mk) ∧ Hid (mk = false → m1 = false) ∧ Hid (mk = false → ∀ j, j < k → EdgeR p T0 f j)) (fun _ s8 _ => K.n2 - (intOf s8).toNat)
 case atStart => exact ⟨0, m1, T1, Nat.zero_le _, rfl, rfl, TW1, FX1, HR1, Lib.hid (fun h => h), Lib.hid (fun _ j hj => absurd hj (Nat.not_lt_zero _))⟩
 case round =>
 rename World => wq
 clear C01 F01 Cg1 Fg1 TW1
 obtain ⟨k, mk, Tk, hk, rfl, rfl, TQ, FQ, RK, HB1, DK⟩ := hrel
 have ⟨L0q, C0q, F0q⟩ := SB0.out.blk FQ.out BR0
 have ⟨Lgq, Cgq, Fgq⟩ := SBg.out.blk FQ.out BG.out
 by_cases hlt2 : k < K.n2
 case neg =>
   obtain rfl : k = K.n2 := by omega
   have hPMk : PM (muT p Tk) wq := by rw [show PM = _ from HPM.out]; exact ⟨Tk, TQ.out, RK.out.snd HS0.out, le_trans (RK.out.le _ _ _) HM0.out, rfl⟩
   have HLE := Lib.hid (leastM_le hPMk)
   have HPK := Lib.hid hPMk
   clear hPMk
   cases mk with
   | true =>
     have HLT := Lib.hid (RK.out.less rfl)
     go_wp2_with fail
     refine ⟨⟨true, rfl, FQ, Lib.hid (fun _ => ⟨_, HPK.out⟩), Lib.hid (fun h => by cases h)⟩, ?_⟩
     have h1 := HLE.out; have h2 := HLT.out; have h3 := HU0.out; have h4 := HLV.out
     simp only [truthOf]
     omega
   | false =>
     have hTk : Tk = T0 := RK.out.same rfl
     have HC : Hid (Clo p Tk) := Lib.hid (by
       rw [hTk]
       refine clo_of (f := f) (fun n a d ha => TX.out.top n a d (fun h9 => ha h9.2.1)) HM0.out (HQ1.out (HB1.out rfl)) (fun k' hk' => DK.out rfl k' (by rw [← HES.out]; exact hk'))
       )
     have HUK : Hid (muT p Tk = muT p T0) := Lib.hid (by rw [hTk])
     have HSK := Lib.hid (RK.out.snd HS0.out)
     clear hTk
     go_wp2_with fail
     refine ⟨⟨false, rfl, FQ, Lib.hid (fun h => by cases h), Lib.hid (fun _ => ⟨Tk, TQ.out, HC.out, HSK.out⟩)⟩, ?_⟩
     have h1 := HLE.out; have h2 := HUK.out; have h3 := HU0.out; have h4 := HLV.out
     simp only [truthOf]
     omega
 have hk9 : (k : Int) < (K.n2 : Int) := by omega
 have hke : k < p.es.length := by rw [HES.out]; exact hlt2
 have HLQ := Lib.hid (FQ.out.below HLR.out hbs.out)
 obtain ⟨b2, o2, ea, eb, e2, hl20, hl2, hk2, hea, heb, hea2, heb2, r2a, r2b, r2c, r2d⟩ := HI.out.edge HO.out HLQ.out hke
 obtain ⟨ek, hek⟩ : ∃ x, (ge p.es k).k = x := ⟨_, rfl⟩
 rw [hek] at r2c
 have HEK := Lib.hid hek
 have hkr5 : 1 ≤ ek ∧ ek ≤ 5 := by have h1 := HO.out.edge hke; omega
 have HNX : Hid (∀ bb : Bool, (bb = false → EdgeR p Tk f k) → (mk || bb) = false → ∀ j, j < k + 1 → EdgeR p T0 f j) := fun bb hq hb j hj => by
   rw [Bool.or_eq_false_iff] at hb
   rcases Nat.lt_or_ge j k with h1 | h1
   · exact DK.out hb.1 j h1
   · obtain rfl : j = k := by omega
     have h2 := hq hb.2
     rw [RK.out.same hb.1] at h2
     exact h2
 have HNX1 : Hid (∀ bb : Bool, (mk || bb) = false → m1 = false) := fun bb hb => HB1.out (by rw [Bool.or_eq_false_iff] at hb; exact hb.1)
 clear hea heb hea2 heb2 r2a r2b r2d hek
 have HPA : Hid (∀ w9, Kept [] wq w9 → (ek = 1 ∨ ek = 5) → Calls Tryz.prog 105 #[.agg #[.slice K.A1 K.n1 K.c1, .slice K.A2 K.n2 K.c2, .int .i64 (mN : Nat), .int .i64 (f : Nat), .slice K.A3 K.n3 K.c3, .slice K.A4 K.n4 K.c4, .slice (some ⟨go, 0, none⟩) K.n1 cA], .int .i64 k] w9 (GetR p K.n1 f go bs rc wq Tk (EdgeR p Tk f k))) := fun w9 hk9 hh =>
   (rpassed_any w9 k HRI.out (HLQ.out.trans (hk9.toBelow.mono HLQ.out.size)) (TQ.out.keep hk9) hke (by rw [HEK.out]; exact hh)).mono (fun e w' h9 => by
     obtain ⟨b, T', h1, h2, h3, h4, h5⟩ := h9.from hk9
     exact ⟨b, T', h1, h2, h3, h4, fun hb => ⟨fun _ => h5 hb, fun h => by rw [HEK.out] at h; omega, fun h => by rw [HEK.out] at h; omega⟩⟩)
 have HEA : Hid (∀ w9, Kept [] wq w9 → ek = 2 → Calls Tryz.prog 106 #[.agg #[.slice K.A1 K.n1 K.c1, .slice K.A2 K.n2 K.c2, .int .i64 (mN : Nat), .int .i64 (f : Nat), .slice K.A3 K.n3 K.c3, .slice K.A4 K.n4 K.c4, .slice (some ⟨go, 0, none⟩) K.n1 cA], .int .i64 k] w9 (GetR p K.n1 f go bs rc wq Tk (EdgeR p Tk f k))) := fun w9 hk9 hh =>
   (rentered_any w9 k HRI.out (HLQ.out.trans (hk9.toBelow.mono HLQ.out.size)) (TQ.out.keep hk9) hke (by rw [HEK.out]; exact hh)).mono (fun e w' h9 => by
     obtain ⟨b, T', h1, h2, h3, h4, h5⟩ := h9.from hk9
     exact ⟨b, T', h1, h2, h3, h4, fun hb => ⟨fun h => by rw [HEK.out] at h; omega, fun _ => h5 hb, fun h => by rw [HEK.out] at h; omega⟩⟩)
 have HRA : Hid (∀ w9, Kept [] wq w9 → (ek = 3 ∨ ek = 4) → Calls Tryz.prog 107 #[.agg #[.slice K.A1 K.n1 K.c1, .slice K.A2 K.n2 K.c2, .int .i64 (mN : Nat), .int .i64 (f : Nat), .slice K.A3 K.n3 K.c3, .slice K.A4 K.n4 K.c4, .slice (some ⟨go, 0, none⟩) K.n1 cA], .int .i64 k] w9 (GetR p K.n1 f go bs rc wq Tk (EdgeR p Tk f k))) := fun w9 hk9 hh =>
   (rreturned_any w9 k HRI.out (HLQ.out.trans (hk9.toBelow.mono HLQ.out.size)) (TQ.out.keep hk9) hke (by rw [HEK.out]; exact hh)).mono (fun e w' h9 => by
     obtain ⟨b, T', h1, h2, h3, h4, h5⟩ := h9.from hk9
     exact ⟨b, T', h1, h2, h3, h4, fun hb => ⟨fun h => by rw [HEK.out] at h; omega, fun h => by rw [HEK.out] at h; omega, fun _ => h5 hb⟩⟩)
 by_cases k1 : ek = 1
 · subst k1
   go_upto_region 21 with fail
   clear e2 r2c hl2
   go_upto_region 26 with (go_at_call 105; refine (HPA.out _ (by (exact kpt0)) (.inl rfl)).mono ?_; rintro e w4 ⟨bb, T4, rfl, hT4, hF4, hR4, hQ4⟩)
   have HT4 := Lib.hid hT4
   have F4 := Lib.hid (FQ.out.trans hF4)
   have HR4 := Lib.hid (RK.out.trans hR4)
   have HE4 := Lib.hid (HNX.out bb hQ4)
   have HE5 := Lib.hid (HNX1.out bb)
   clear hT4 hF4 hR4 hQ4 C0q F0q Cgq Fgq HPA HEA HRA
   cases mk <;> cases bb
   · go_wp2_with fail
     exact ⟨⟨k + 1, false, T4, by omega, by go_num, rfl, HT4, F4, HR4, HE5, HE4⟩, by simp [intOf]; omega⟩
   · go_wp2_with fail
     exact ⟨⟨k + 1, true, T4, by omega, by go_num, rfl, HT4, F4, HR4, HE5, HE4⟩, by simp [intOf]; omega⟩
   · go_wp2_with fail
     exact ⟨⟨k + 1, true, T4, by omega, by go_num, rfl, HT4, F4, HR4, HE5, HE4⟩, by simp [intOf]; omega⟩
   · go_wp2_with fail
     exact ⟨⟨k + 1, true, T4, by omega, by go_num, rfl, HT4, F4, HR4, HE5, HE4⟩, by simp [intOf]; omega⟩
 by_cases k5 : ek = 5
 · subst k5
   go_upto_region 21 with fail
   clear e2 r2c hl2
   go_upto_region 26 with (go_at_call 105; refine (HPA.out _ (by (exact kpt0)) (.inr rfl)).mono ?_; rintro e w4 ⟨bb, T4, rfl, hT4, hF4, hR4, hQ4⟩)
   have HT4 := Lib.hid hT4
   have F4 := Lib.hid (FQ.out.trans hF4)
   have HR4 := Lib.hid (RK.out.trans hR4)
   have HE4 := Lib.hid (HNX.out bb hQ4)
   have HE5 := Lib.hid (HNX1.out bb)
   clear hT4 hF4 hR4 hQ4 C0q F0q Cgq Fgq HPA HEA HRA
   cases mk <;> cases bb
   · go_wp2_with fail
     exact ⟨⟨k + 1, false, T4, by omega, by go_num, rfl, HT4, F4, HR4, HE5, HE4⟩, by simp [intOf]; omega⟩
   · go_wp2_with fail
     exact ⟨⟨k + 1, true, T4, by omega, by go_num, rfl, HT4, F4, HR4, HE5, HE4⟩, by simp [intOf]; omega⟩
   · go_wp2_with fail
     exact ⟨⟨k + 1, true, T4, by omega, by go_num, rfl, HT4, F4, HR4, HE5, HE4⟩, by simp [intOf]; omega⟩
   · go_wp2_with fail
     exact ⟨⟨k + 1, true, T4, by omega, by go_num, rfl, HT4, F4, HR4, HE5, HE4⟩, by simp [intOf]; omega⟩
 by_cases k2 : ek = 2
 · subst k2
   go_upto_region 21 with fail
   clear e2 r2c hl2
   go_upto_region 26 with (go_at_call 106; refine (HEA.out _ (by (exact kpt0)) rfl).mono ?_; rintro e w4 ⟨bb, T4, rfl, hT4, hF4, hR4, hQ4⟩)
   have HT4 := Lib.hid hT4
   have F4 := Lib.hid (FQ.out.trans hF4)
   have HR4 := Lib.hid (RK.out.trans hR4)
   have HE4 := Lib.hid (HNX.out bb hQ4)
   have HE5 := Lib.hid (HNX1.out bb)
   clear hT4 hF4 hR4 hQ4 C0q F0q Cgq Fgq HPA HEA HRA
   cases mk <;> cases bb
   · go_wp2_with fail
     exact ⟨⟨k + 1, false, T4, by omega, by go_num, rfl, HT4, F4, HR4, HE5, HE4⟩, by simp [intOf]; omega⟩
   · go_wp2_with fail
     exact ⟨⟨k + 1, true, T4, by omega, by go_num, rfl, HT4, F4, HR4, HE5, HE4⟩, by simp [intOf]; omega⟩
   · go_wp2_with fail
     exact ⟨⟨k + 1, true, T4, by omega, by go_num, rfl, HT4, F4, HR4, HE5, HE4⟩, by simp [intOf]; omega⟩
   · go_wp2_with fail
     exact ⟨⟨k + 1, true, T4, by omega, by go_num, rfl, HT4, F4, HR4, HE5, HE4⟩, by simp [intOf]; omega⟩
 have z1 : (ek == 1) = false := by simpa using k1
 have z2 : (ek == 5) = false := by simpa using k5
 have z3 : (ek == 2) = false := by simpa using k2
 have hk34 : ek = 3 ∨ ek = 4 := by omega
 have HK34 := Lib.hid hk34
 clear k1 k5 k2 hk34
 go_upto_region 21 with fail
 clear e2 r2c hl2
 go_upto_region 26 with (go_at_call 107; refine (HRA.out _ (by (exact kpt0)) HK34.out).mono ?_; rintro e w4 ⟨bb, T4, rfl, hT4, hF4, hR4, hQ4⟩)
 have HT4 := Lib.hid hT4
 have F4 := Lib.hid (FQ.out.trans hF4)
 have HR4 := Lib.hid (RK.out.trans hR4)
 have HE4 := Lib.hid (HNX.out bb hQ4)
 have HE5 := Lib.hid (HNX1.out bb)
 clear hT4 hF4 hR4 hQ4 C0q F0q Cgq Fgq HPA HEA HRA
 cases mk <;> cases bb
 · go_wp2_with fail
   exact ⟨⟨k + 1, false, T4, by omega, by go_num, rfl, HT4, F4, HR4, HE5, HE4⟩, by simp [intOf]; omega⟩
 · go_wp2_with fail
   exact ⟨⟨k + 1, true, T4, by omega, by go_num, rfl, HT4, F4, HR4, HE5, HE4⟩, by simp [intOf]; omega⟩
 · go_wp2_with fail
   exact ⟨⟨k + 1, true, T4, by omega, by go_num, rfl, HT4, F4, HR4, HE5, HE4⟩, by simp [intOf]; omega⟩
 · go_wp2_with fail
   exact ⟨⟨k + 1, true, T4, by omega, by go_num, rfl, HT4, F4, HR4, HE5, HE4⟩, by simp [intOf]; omega⟩
end Go.Proofs.YtincpmdldpakkaaGreatDoor
namespace Go.Df
namespace If
open Sp
end If
namespace Iv
open Sp
def stL (ns : List Nd) (i : Nat) : List Nat := (List.range i).map (If.stOf ns)
noncomputable def vfold (p : Vb) (T : Nat → Nat → Nat → D) (V : Nat → Nat → U) (n d a : Nat) : U := (List.range a).foldl (fun v a => meetV v (app (T n a d) (V (If.stOf p.ns n) a))) topV
end Iv
end Go.Df
namespace Go.Proofs.YtincpmdldpakkaaGreatDoor
open Go.RowKit Go.Df Go.Df.Iv Go.Df.Sp
attribute [local go_sem ↓] Go.wp_at_zero Go.wp_at_succ
end Go.Proofs.YtincpmdldpakkaaGreatDoor
namespace Go.Df.Iv
open Go Go.RowKit Go.Df.Sp
theorem Tw.fx {p : Vb} {N f : Nat} {w w' : World} {go : Nat} {rw rc : Nat → Nat} {T : Nat → Nat → Nat → D} {O O' : Nat → Prop} (h : Tw p N f w go rw rc T) (k : Fx O O' w w') (hg : SafeB O w go) (hr : ∀ n, n < N → SafeB O w (rw n)) : Tw p N f w' go rw rc T :=
 ⟨(hg.fx k).1, fun n hn => (hg.cell k n).trans (h.row n hn), fun n a d hn ha hd => ⟨((hr n hn).cell k _).trans (h.cell n a d hn ha hd).1, ((hr n hn).cell k _).trans (h.cell n a d hn ha hd).2.1, ((hr n hn).cell k _).trans (h.cell n a d hn ha hd).2.2⟩,
   fun n i hn => (World.frozen?_of_block (w := w) ((hr n hn).heap k)).trans (h.fr n i hn), fun n hn => ((hr n hn).fx k).1, h.inj, h.ne, h.top⟩
structure Ln (p : Vb) (N f : Nat) (w : World) (O : Nat → Prop) (go : Nat) (rw rc : Nat → Nat) (T : Nat → Nat → Nat → D) (As : Option Addr) (cs : Nat) : Prop where
 tw : Tw p N f w go rw rc T
 sg : SafeB O w go
 sr : ∀ n, n < N → SafeB O w (rw n)
 st : SInO O w As N cs (ofNats (stL p.ns N))
theorem Ln.fx {p : Vb} {N f : Nat} {w w' : World} {go : Nat} {rw rc : Nat → Nat} {T : Nat → Nat → Nat → D} {O : Nat → Prop} {As : Option Addr} {cs : Nat} (h : Ln p N f w O go rw rc T As cs) (k : Fx O O w w') : Ln p N f w' O go rw rc T As cs :=
 ⟨h.tw.fx k h.sg h.sr, h.sg.fx k, fun n hn => (h.sr n hn).fx k, h.st.fx k⟩
end Go.Df.Iv
namespace Go.Proofs.YtincpmdldpakkaaGreatDoor
open Go.RowKit Go.Df Go.Df.Iv Go.Df.Sp
attribute [local go_sem ↓] Go.wp_at_zero Go.wp_at_succ
def GetL (p : Vb) (N f go2 : Nat) (rw2 rc2 : Nat → Nat) (w : World) (T : Nat → Nat → Nat → D) (V : Nat → Nat → U) (Q : Prop) (e : Ending) (w' : World) : Prop :=
 ∃ b V', e = .returned (.bool b) ∧ Vw N f w' go2 rw2 rc2 V' ∧ Fx (RowO N rw2) (RowO N rw2) w w' ∧ Rv p T V V' b ∧ (b = false → Q)
end Go.Proofs.YtincpmdldpakkaaGreatDoor
namespace Go.Df
open Go.RowKit
namespace Iv
open Sp
def ucel (g : Nat → U) (j : Nat) : List Value := (List.range j).flatMap fun d => [.int .i64 (g d).1.k, .int .i64 (g d).1.n]
def EmU (base : Nat) (tb : TypeId) (f : Nat) (S : Nat → Nat → U) (bs : Nat → Nat) (n : Nat) (w : World) : Prop :=
 (∀ x, x < n → base ≤ bs x ∧ Tag w (bs x) tb ∧ ∀ d, d < f → w.cell? ⟨bs x, d * 2, none⟩ = some (.int .i64 (S x d).1.k) ∧ w.cell? ⟨bs x, d * 2 + 1, none⟩ = some (.int .i64 (S x d).1.n)) ∧ ∀ x y, x < n → y < n → bs x = bs y → x = y
theorem EmU.kept {base : Nat} {tb : TypeId} {f n : Nat} {S : Nat → Nat → U} {bs : Nat → Nat} {X : List Nat} {w w' : World} (h : EmU base tb f S bs n w) (hk : Kept X w w') (hX : ∀ x, x < n → bs x ∉ X) : EmU base tb f S bs n w' :=
 ⟨fun x hx => by
   obtain ⟨h1, h2, h3⟩ := h.1 x hx
   exact ⟨h1, h2.same (hk.block _ h2.lt (hX x hx)), fun d hd => ⟨(hk.cell _ _ h2.lt (hX x hx)).trans (h3 d hd).1, (hk.cell _ _ h2.lt (hX x hx)).trans (h3 d hd).2⟩⟩, h.2⟩
theorem EmU.snoc {base : Nat} {tb : TypeId} {f n g : Nat} {S : Nat → Nat → U} {bs : Nat → Nat} {w : World} (h : EmU base tb f S bs n w) (hg : base ≤ g) (ht : Tag w g tb) (hc : ∀ d, d < f → w.cell? ⟨g, d * 2, none⟩ = some (.int .i64 (S n d).1.k) ∧ w.cell? ⟨g, d * 2 + 1, none⟩ = some (.int .i64 (S n d).1.n)) (hn : ∀ x, x < n → bs x ≠ g) : EmU base tb f S (updN bs n g) (n + 1) w := by
 refine ⟨fun x hx => ?_, fun x y hx hy e => ?_⟩
 · unfold updN
   by_cases e : x = n
   · rw [if_pos e, e]; exact ⟨hg, ht, hc⟩
   · rw [if_neg e]; exact h.1 x (by omega)
 · unfold updN at e
   by_cases e1 : x = n
   · by_cases e2 : y = n
     · omega
     · rw [if_pos e1, if_neg e2] at e; exact absurd e.symm (hn y (by omega))
   · by_cases e2 : y = n
     · rw [if_neg e1, if_pos e2] at e; exact absurd e (hn x (by omega))
     · rw [if_neg e1, if_neg e2] at e; exact h.2 x y (by omega) (by omega) e
end Iv
end Go.Df
namespace Go.Proofs.YtincpmdldpakkaaGreatDoor
open Go.RowKit Go.Df Go.Df.Iv Go.Df.Sp
attribute [local go_sem ↓] Go.wp_at_zero Go.wp_at_succ
theorem val_info9 : (Tryz.prog.info? 46).map (fun i => (i.zero, i.size, i.bytes)) = some (some (.agg #[.int .i64 0, .int .i64 0]), 2, 16) := by kernel_rfl
theorem rowv_info : (Tryz.prog.info? 39).map (fun i => (i.zero, i.size, i.bytes)) = some (some (.slice none 0 0), 1, 24) := by kernel_rfl
theorem Inp.kept9 {p : Vb} {K : Kn} {w w' : World} (h : Inp p K w) (hk : Kept [] w w') : Inp p K w' := by
 have hb := hk.toBelow
 refine ⟨h.nd.later hb, h.ed.later hb, h.fl.later hb, h.sd.later hb, fun b o i A n c e hi hc => ?_⟩
 obtain ⟨b', o', e', hl, hc'⟩ := h.fl.2 (by omega)
 rw [e] at e'
 injection e' with e'
 injection e' with e1 e2
 subst e1 e2
 exact h.fc b o i A n c e hi ((hb.cell (p := ⟨b, _, none⟩) hl).symm.trans hc)
def GetU (p : Vb) (N f : Nat) (w : World) (e : Ending) (w' : World) : Prop :=
 ∃ (go cc : Nat) (rw rc : Nat → Nat) (S : Nat → Nat → U), e = .returned (.tuple #[.agg #[.slice (some ⟨go, 0, none⟩) N cc], .int .i64 0]) ∧ Vw N f w' go rw rc S ∧ IsSol p S ∧ Below w.heap.size w w'
end Go.Proofs.YtincpmdldpakkaaGreatDoor
