/- Texts: Ts Eb Gk Ax. -/
import Derived.Test.YtincpmdldpakkaaGreatDoorJb09
import Derived.Test.YtincpmdldpakkaaGreatDoorJb26
import Derived.Test.YtincpmdldpakkaaGreatDoorJb35
import Derived.Test.YtincpmdldpakkaaGreatDoorJb02
import Derived.Test.YtincpmdldpakkaaGreatDoorJb06
import Derived.Test.YtincpmdldpakkaaGreatDoorJb08
namespace Go.Df
open Go.RowKit Go.Maps Go.ChangeMaps
section
variable {P : Program} {k : TypeId} {z : Value} {w w' : World} {b r n : Nat} {f : Value → Value} {left : Lit → Bool} {cnt : Nat}
theorem RgO.own_ne {m : Option Nat} (h : RgO P k z w m r n f left cnt) {base : Nat} {e : TypeId} {size : Nat} {v : Value} {n' : Nat} {xs : List Value} (hv : w.ownsRow base e size v n' xs) : r ∉ v.ownBlock.toList := by
 cases m with
 | some b =>
   obtain ⟨D, h1, -⟩ := h
   intro hm
   exact row_ne_iter hv h1 (by simpa using hm : v.ownBlock = some r).symm
 | none =>
   intro hm
   rcases hv.2 with ⟨rfl, _⟩ | ⟨g, cap, cur, rfl, -, hh, -⟩
   · simp [Value.ownBlock] at hm
   · have e1 : r = g := by simpa [Value.ownBlock, eq_comm] using hm
     subst e1
     rw [h.1] at hh
     cases hh
variable {ops : Array Oper} {rest : List Oper} {o : Oper} {a : Act} {Q : Exit → Act → World → Prop}
theorem wpList_next_mapN (hg : o.guard = none) (it : Operand) (hop : o.op = Op.next it false) (K : Keyed P k) (hinv : ∀ key kl, keyOf P k key = some kl → ∃ x y, key = .agg #[.int .i64 x, .int .i64 y] ∧ (Lit.int .i64 x).wf = true ∧ (Lit.int .i64 y).wf = true) (mm : Option Nat)
   (hit : a.eval it = .pointer (some ⟨r, 0, none⟩)) (h : RgO P k z w mm r n f left cnt)
   (hDone : cnt = 0 → (∀ kl, left kl = false) → wpList P ops Q rest (a.put o.dst (.tuple #[.bool false])) w)
   (hMore : ∀ (x y : Int) (left' : Lit → Bool) (w' : World) (cnt' : Nat), (Lit.int .i64 x).wf = true → (Lit.int .i64 y).wf = true → ¬ Came P k left (.agg #[.int .i64 x, .int .i64 y]) → (∀ key, Came P k left' key ↔ (Came P k left key ∨ key = .agg #[.int .i64 x, .int .i64 y])) → RgO P k z w' mm r n f left' cnt' → cnt' < cnt → Kept [r] w w' → w'.heap.size = w.heap.size → f (.agg #[.int .i64 x, .int .i64 y]) ≠ z →
     (Instr.entry (.pointer (some ⟨r, 0, none⟩))).run P w' = .ok (.tuple #[.agg #[.int .i64 x, .int .i64 y], f (.agg #[.int .i64 x, .int .i64 y])]) w' → wpList P ops Q rest (a.put o.dst (.tuple #[.bool true, .agg #[.int .i64 x, .int .i64 y], f (.agg #[.int .i64 x, .int .i64 y])])) w') :
   wpList P ops Q (o :: rest) a w := by
 cases mm with
 | some b =>
   obtain ⟨D, h1, h2⟩ := h
   refine wpList_next_ranges w hg it hop k K tokElem (id : Value → Value) id (fun key kl hkey => ⟨key, rfl⟩) (fun v y _ => ⟨v, rfl⟩) b r n D left cnt hit h1 hDone ?_
   intro key c kl y w' cnt' hkey hlk hv hat hrg hlt hgr hsz hen
   obtain ⟨x0, y0, rfl, hx0, hy0⟩ := hinv _ _ hkey
   have h3 := (h2 _ _ hkey).1
   rw [hat] at h3
   have h4 : y = (.held c, []) := by
     have : tokElem (id c) = some y := hv
     unfold tokElem at this
     exact (Option.some.inj this).symm
   rw [h4] at h3
   injection h3 with h3
   have h3 : c = f (.agg #[.int .i64 x0, .int .i64 y0]) := h3
   subst h3
   have hnc : ¬ Came P k left (.agg #[.int .i64 x0, .int .i64 y0]) := by
     rintro ⟨kl', e1, e2⟩
     have e3 : kl = kl' := Option.some.inj (hkey.symm.trans e1)
     subst e3
     rw [hlk] at e2
     cases e2
   exact hMore x0 y0 _ w' cnt' hx0 hy0 hnc (came_step K hkey) ⟨D, hrg, h2⟩ hlt (kept_of_grown hgr) hsz ((h2 _ _ hkey).2 (fun zd => by rw [hat zd, h4]; rfl)) hen
 | none =>
   refine wpList_plain hg fun K' hK' => ?_
   have hrun : ∀ ty, (Instr.next (.pointer (some ⟨r, 0, none⟩)) false ty).run P w = .ok (.tuple #[.bool false]) w := fun ty => by
     simp only [Instr.next, getObj, Sem.run_bind, Sem.run, h.1, Result.andThen]
     rfl
   unfold Oper.wp
   simp [execOp, hop, hit, hrun, Result.andThen]
   exact hK' _ _ (hDone h.2.1 h.2.2)
end
namespace Iv
theorem nodup_len9 : ∀ {l l' : List Jp}, l.Nodup → (∀ x ∈ l, x ∈ l') → l.length ≤ l'.length
 | [], _, _, _ => Nat.zero_le _
 | x :: l, l', hn, hs => by
   rw [List.nodup_cons] at hn
   have hx : x ∈ l' := hs x (by simp)
   have h1 := nodup_len9 (l' := l'.erase x) hn.2 (fun y hy => (List.mem_erase_of_ne (fun e => hn.1 (by rw [← e]; exact hy))).2 (hs y (List.mem_cons_of_mem _ hy)))
   have h2 := List.length_erase_of_mem hx
   have h3 := List.length_pos_of_mem hx
   simp
   omega
structure Jc (T : Nat → Nat → Nat → D) (n f : Nat) (C : Value → Prop) (cs : List Jp) : Prop where
 mem : ∀ j, j ∈ cs ↔ ∃ a d, C (pv2 a d) ∧ T n a d ≠ top ∧ j = jOf n a d (T n a d)
 dif : cs.Pairwise fun x y => ¬ (x.i = y.i ∧ x.o = y.o)
section
variable {T : Nat → Nat → Nat → D} {n f : Nat} {C C' : Value → Prop} {cs : List Jp}
theorem Jc.init (h : ∀ a d, C (pv2 a d) → T n a d = top) : Jc T n f C [] := ⟨fun j => ⟨fun h9 => (by cases h9), fun ⟨a, d, h1, h2, _⟩ => absurd (h a d h1) h2⟩, List.Pairwise.nil⟩
theorem Jc.step (h : Jc T n f C cs) {a d : Nat} (hT : T n a d ≠ top) (hnc : ¬ C (pv2 a d)) (hC : ∀ key, C' key ↔ (C key ∨ key = pv2 a d)) : Jc T n f C' (cs ++ [jOf n a d (T n a d)]) := by
 have hinj : ∀ {a' d' : Nat}, pv2 a' d' = pv2 a d → a' = a ∧ d' = d := fun {a' d'} e => by
   unfold pv2 at e
   simp at e
   exact ⟨by omega, by omega⟩
 refine ⟨fun j => ?_, ?_⟩
 · rw [List.mem_append, List.mem_singleton]
   constructor
   · rintro (h9 | rfl)
     · obtain ⟨a', d', h1, h2, e⟩ := (h.mem j).1 h9
       exact ⟨a', d', (hC _).2 (.inl h1), h2, e⟩
     · exact ⟨a, d, (hC _).2 (.inr rfl), hT, rfl⟩
   · rintro ⟨a', d', h1, h2, e⟩
     rcases (hC _).1 h1 with h1 | h1
     · exact .inl ((h.mem j).2 ⟨a', d', h1, h2, e⟩)
     · obtain ⟨rfl, rfl⟩ := hinj h1
       exact .inr e
 · rw [List.pairwise_append]
   refine ⟨h.dif, by simp, fun x hx y hy => ?_⟩
   obtain rfl := List.mem_singleton.1 hy
   obtain ⟨a', d', h1, h2, rfl⟩ := (h.mem x).1 hx
   rintro ⟨e1, e2⟩
   have e1 : (a' : Int) = a := e1
   have e2 : (d' : Int) = d := e2
   obtain rfl : a' = a := by omega
   obtain rfl : d' = d := by omega
   exact hnc h1
theorem Jc.len (h : Jc T n f C cs) (hr : ∀ a d, T n a d ≠ top → a < f ∧ d < f) : cs.length ≤ f * f := by
 refine Nat.le_trans (nodup_len9 (l' := jnode T n f f) ?_ fun x hx => ?_) jnode_len
 · exact h.dif.imp (fun h9 e => h9 (by rw [e]; exact ⟨rfl, rfl⟩))
 · obtain ⟨a, d, _, h2, rfl⟩ := (h.mem x).1 hx
   exact mem_jnode.2 ⟨a, d, (hr a d h2).1, (hr a d h2).2, h2, rfl⟩
theorem Jc.all (h : Jc T n f C cs) (hr : ∀ a d, T n a d ≠ top → a < f ∧ d < f) (hc : ∀ a d, T n a d ≠ top → C (pv2 a d)) (j : Jp) : j ∈ cs ↔ j ∈ jnode T n f f := by
 rw [h.mem, mem_jnode]
 constructor
 · rintro ⟨a, d, _, h2, e⟩
   exact ⟨a, d, (hr a d h2).1, (hr a d h2).2, h2, e⟩
 · rintro ⟨a, d, _, _, h2, e⟩
   exact ⟨a, d, hc a d h2, h2, e⟩
end
end Iv
end Go.Df
namespace Go.Proofs.YtincpmdldpakkaaGreatDoor
open Go.RowKit Go.Df Go.Df.Iv Go.Df.Sp Go.Sort
attribute [local go_sem ↓] Go.wp_at_zero Go.wp_at_succ
set_option maxRecDepth 100000 in
set_option maxHeartbeats 20000000 in
theorem pjumps_ok {p : Vb} {K0 : Kn} (w : World) (mN f : Nat) (hI : Inp p K0 w) (hgv : Gv w) (ho : VOk p) (hfit : VFit p) (hmn : p.mn = (mN : Int)) (hF : p.F = (f : Int)) (hn4 : K0.n4 ≤ 1000000) (hmu : mu0 p ≤ 1000000) (hbd : K0.n1 * (f * f) ≤ 1000000)
   (hchk : ∀ w1, Below w.heap.size w w1 → Calls Tryz.prog 31 #[.agg #[.slice K0.A1 K0.n1 K0.c1, .slice K0.A2 K0.n2 K0.c2, .int .i64 (mN : Nat), .int .i64 (f : Nat), .slice K0.A3 K0.n3 K0.c3, .slice K0.A4 K0.n4 K0.c4]] w1 fun e w' => e = .returned (.int .i64 0) ∧ Below w1.heap.size w1 w') :
   Calls Tryz.prog 21 #[.agg #[.slice K0.A1 K0.n1 K0.c1, .slice K0.A2 K0.n2 K0.c2, .int .i64 (mN : Nat), .int .i64 (f : Nat), .slice K0.A3 K0.n3 K0.c3, .slice K0.A4 K0.n4 K0.c4]] w fun e w' => ∃ T A n c, e = .returned (.tuple #[.slice A n c, .int .i64 0]) ∧ JlR w' A n (jall T f K0.n1) ∧ Clo p T ∧ Snd p T ∧ Below w.heap.size w w' := by
 obtain ⟨i0, hi, hz0, hz1, hz2⟩ := info_parts jump_info
 have hN1 : K0.n1 = p.ns.length := hI.nd.1.symm
 have hN8 : K0.n1 ≤ 8192 := by have := (If.sup_parts ho.sup).1; omega
 have hf8 : f ≤ 1024 := by have := ho.f2; omega
 have HI := Lib.hid hI
 have HGV := Lib.hid hgv
 have HO := Lib.hid ho
 have HFI := Lib.hid hfit
 have HMN := Lib.hid hmn
 have HEF := Lib.hid hF
 have HFE : Hid (p.F.toNat = f) := by show _ = _; rw [hF, Int.toNat_natCast]
 have HEN := Lib.hid hN1
 have HMU := Lib.hid hmu
 have HBD := Lib.hid hbd
 have HCHK := Lib.hid hchk
 clear hI hgv ho hfit hmn hF hN1 hmu hchk hbd
 go_enter Tryz.func21, Tryz.ntmps21
 go_upto_region 1 with fail
 refine wp_named (fun W => ∃ b0, w.heap.size = b0 ∧ Blk W b0 [.slice K0.A1 K0.n1 K0.c1, .slice K0.A2 K0.n2 K0.c2, .int .i64 (mN : Nat), .int .i64 (f : Nat), .slice K0.A3 K0.n3 K0.c3, .slice K0.A4 K0.n4 K0.c4] ∧ Below w.heap.size w W) ⟨_, rfl, ?_, ?_⟩ ?_
 · exact kbn
 · go_grown
 rintro W ⟨b0, e0, B0, hB⟩
 rw [e0]
 have G0 : w.heap.size ≤ b0 := by omega
 clear e0
 have ⟨L0, C0, F0⟩ := B0
 go_upto_region 2 with (go_at_call 31; refine (HCHK.out _ hB).mono ?_; rintro e w1 ⟨rfl, hb1⟩)
 have hkw1 : Kept [] w w1 := ((Kept.refl _ _).call hB).call hb1
 have HB0 := Lib.hid (B0.later hb1)
 have ⟨L01, C01, F01⟩ := HB0.out
 have HTB : Hid (Calls Tryz.prog 32 #[.agg #[.slice K0.A1 K0.n1 K0.c1, .slice K0.A2 K0.n2 K0.c2, .int .i64 (mN : Nat), .int .i64 (f : Nat), .slice K0.A3 K0.n3 K0.c3, .slice K0.A4 K0.n4 K0.c4]] w1 (GetTb p K0 w1)) := tab_any w1 mN f (HI.out.kept9 hkw1) (HGV.out.later hkw1.toBelow) HO.out HFI.out HMN.out HEF.out hn4 HMU.out
 clear C0 F0
 go_upto_region 5 with (go_at_call 32; refine HTB.out.mono ?_; rintro e w2 ⟨w0, KZ, g, O, G, s, rfl, hb0, hI2, hM2, hT2, hq2, ek⟩)
 have hk10 : Kept [] w1 w0 := (Kept.refl _ _).call hb0
 have hkw2 : Kept [] w1 w2 := hk10.call hM2.low
 have HM := Lib.hid hM2
 have HCLO : Hid (Clo p s.T) := Lib.hid (hT2.1.done hq2)
 have HSND : Hid (Snd p s.T) := Lib.hid hT2.1.good.snd
 have HRNG : Hid (∀ n a d, s.T n a d ≠ top → a < f ∧ d < f) := Lib.hid (fun n a d h => by have h9 := hT2.1.good.wf.rng n a d h; rw [HFE.out] at h9; exact h9.2)
 have HK02 : Hid (Below w.heap.size w w2) := Lib.hid (keptTrans hkw1 hkw2).toBelow
 have HEK := Lib.hid ek
 have BG := hM2.box
 unfold sbox at BG
 have HBX := Lib.hid BG
 have ⟨LG, CG, FG⟩ := HBX.out
 obtain ⟨base, hbase⟩ : ∃ base, w2.heap.size = base := ⟨_, rfl⟩
 have HBASE := Lib.hid hbase
 clear C01 F01 HTB hM2 hT2 hq2 hI2 hbase BG
 go_wp2_with fail
 clear CG FG LG
 go_loopw [6, 25] (fun s6 s25 wr => ∃ (n : Nat) (A : Option Addr) (m c : Nat), n ≤ K0.n1 ∧ s25 = .int .i64 n ∧ s6 = .slice A m c ∧ Hid ((jall s.T f n).length = m) ∧ Hid (wr.ownsRow base 73 6 (.slice A m c) m ((jall s.T f n).flatMap jc)) ∧ Hid (Kept [] w2 wr)) (fun _ s25 _ => K0.n1 - (intOf s25).toNat)
 case atStart => exact ⟨0, none, 0, 0, Nat.zero_le _, rfl, rfl, Lib.hid rfl, Lib.hid (World.ownsRow_nil _ _ _ _), Lib.hid (Kept.refl _ _)⟩
 case round =>
 obtain ⟨n, A, m0, c, hn9, rfl, rfl, HL0, OWN, HKR⟩ := hrel
 by_cases hlt : n < K0.n1
 case neg =>
   obtain rfl : n = K0.n1 := by omega
   clear hlt
   go_wp2_with fail
   go_ret2
   exact ⟨s.T, A, m0, c, rfl, JlR.own OWN.out HL0.out, HCLO.out, HSND.out, HKR.out.below HK02.out HK02.out.size (by simp)⟩
 have hiK : n < KZ.n1 := by have := HEK.out; omega
 have hn1' : (n : Int) < (K0.n1 : Int) := by omega
 have MR := Lib.hid (HM.out.call HKR.out.toBelow)
 have chr := MR.out.tj.cell hiK
 have lhr : KZ.tr 0 < wr.heap.size := MR.out.tj.rtag.lt
 obtain ⟨mm, hmm⟩ : ∃ mm, G.m 0 n = mm := ⟨_, rfl⟩
 rw [hmm] at chr
 have HMM := Lib.hid hmm
 obtain ⟨r, er⟩ : ∃ r, wr.heap.size = r := ⟨_, rfl⟩
 have HER := Lib.hid er
 have HMB : Hid (∀ b, mm = some b → b < base) := Lib.hid (fun b hb => by rw [← HBASE.out]; exact (HM.out.og b (HM.out.om 0 n b (by omega) hiK (HMM.out.trans hb))).2)
 clear hmm er
 go_upto_region 10 with fail
 go_upto_region 11 with ((at_range; refine wpList_range_mapO (P := Tryz.prog) (k := 101) (z := .agg #[.int .i64 0, .int .i64 0, .int .i64 0]) (n := G.c 0 n) (f := G.jv n) rfl _ _ rfl 71 Tryz.lawPair Tryz.mapPX mm rfl (fun b hb => MR.out.tj.is n b hiK (HMM.out.trans hb)) (fun hn key => MR.out.tj.no n hiK (HMM.out.trans hn) key) ?_; intro w4 left cnt hrg hleft hk4 hs4; rw [HER.out] at hrg hs4 ⊢; have HRG := Lib.hid hrg; have HLEFT := Lib.hid hleft; have HK4 := Lib.hid hk4; have HS4 := Lib.hid hs4; clear hrg hleft hk4 hs4))
 (try go_wp2_with fail)
 have HJC : Hid (Jc s.T n f (Came Tryz.prog 101 left) []) := Lib.hid (Jc.init (fun a d ⟨kl, hk9, hl9⟩ => by
   have e1 := HLEFT.out _ _ hk9 hl9
   rw [HM.out.hj n a d hiK] at e1
   exact xv_inj e1))
 have HK24 : Hid (Kept [] w2 w4) := Lib.hid (keptTrans HKR.out HK4.out)
 have OW4 := Lib.hid (own_keptT (X := []) OWN.out HK4.out (by simp))
 have hrb : base ≤ r := by have h1 := HER.out; have h2 := HBASE.out; have h3 := HKR.out.size; omega
 clear chr lhr MR HLEFT OWN HKR HK4
 go_frame
 go_loopw [6] (fun s6 wq => ∃ (left : Lit → Bool) (cnt : Nat) (A : Option Addr) (m c : Nat) (cs : List Jp), s6 = .slice A m c ∧ Hid ((jall s.T f n ++ cs).length = m) ∧ Hid (wq.ownsRow base 73 6 (.slice A m c) m ((jall s.T f n ++ cs).flatMap jc)) ∧ Hid (Jc s.T n f (Came Tryz.prog 101 left) cs) ∧ Hid (RgO Tryz.prog 101 (.agg #[.int .i64 0, .int .i64 0, .int .i64 0]) wq mm r (G.c 0 n) (G.jv n) left cnt) ∧ Hid (Kept [] w2 wq)) (fun _ wq => leftO wq mm r)
 case atStart => exact ⟨left, cnt, A, m0, c, [], rfl, Lib.hid (by rw [List.append_nil]; exact HL0.out), Lib.hid (by rw [List.append_nil]; exact OW4.out), HJC, HRG, HK24⟩
 case round =>
 clear HJC HRG HK24 OW4
 rename World => wq
 obtain ⟨left, cnt, A, m, c, cs, rfl, HLM, OWN, HJC, HRG, HKQ⟩ := hrel
 go_upto_region 12 with (at_next; refine wpList_next_mapN rfl _ rfl Tryz.lawPair Tryz.invPair mm rfl HRG.out ?_ ?_)
 · intro hc0 hl0
   have HALL : Hid (∀ j, j ∈ cs ↔ j ∈ jnode s.T n f f) := Lib.hid (HJC.out.all (HRNG.out n) (fun a d h9 => by
     have h1 := HRNG.out n a d h9
     obtain ⟨kl, hkl⟩ := Tryz.keyPair (a : Int) (d : Int) (WalkArith.wf_i64 (by omega)) (WalkArith.wf_i64 (by omega))
     exact ⟨kl, hkl, hl0 kl⟩))
   have HSU : Hid (jall s.T f (n + 1) = jall s.T f n ++ jnode s.T n f f) := Lib.hid jall_succ
   have hcl := HJC.out.len (HRNG.out n)
   have hle : m0 ≤ m := by have h1 := HLM.out; have h2 := HL0.out; rw [List.length_append] at h1; omega
   have hmle : (m0 : Int) ≤ (m : Int) := by omega
   have hcsl : cs.length ≤ 1000000 := by
     have h1 := HBD.out
     have h2 : 1 * (f * f) ≤ K0.n1 * (f * f) := Nat.mul_le_mul_right _ (by omega)
     omega
   clear hc0 hl0 hcl
   by_cases h0 : m = m0
   · subst h0
     have hnil : cs = [] := by
       have h1 := HLM.out
       have h2 := HL0.out
       rw [List.length_append] at h1
       exact List.eq_nil_of_length_eq_zero (by omega)
     subst hnil
     have HSU2 : Hid (jall s.T f (n + 1) = jall s.T f n ++ []) := Lib.hid (by
       rw [HSU.out]
       congr 1
       exact List.eq_nil_iff_forall_not_mem.2 (fun j hj => by cases (HALL.out j).2 hj))
     by_cases hcm : c = m
     · subst hcm
       go_upto_region 15 with (go_at_call 52; refine (sortJ_none _ _ _ _).mono ?_; rintro e w6 ⟨rfl, rfl⟩)
       go_wp2_with fail
       exact ⟨⟨n + 1, A, c, c, by omega, by go_num, rfl, Lib.hid (by rw [HSU2.out]; exact HLM.out), Lib.hid (by rw [HSU2.out]; exact OWN.out), HKQ⟩, by simp [intOf]; omega⟩
     · go_upto_region 15 with (go_at_call 52; refine (sortJ_none _ _ _ _).mono ?_; rintro e w6 ⟨rfl, rfl⟩)
       go_wp2_with fail
       exact ⟨⟨n + 1, A, m, c, by omega, by go_num, rfl, Lib.hid (by rw [HSU2.out]; exact HLM.out), Lib.hid (by rw [HSU2.out]; exact OWN.out), HKQ⟩, by simp [intOf]; omega⟩
   · have hlt0 : m0 < m := by omega
     obtain ⟨gr, c', hv, hbr, hgl, hmc, -, -⟩ := own_cellsT OWN.out (by omega)
     injection hv with e1 e2 e3
     subst e1
     subst e3
     have hcm : ¬ (c = m0) := by omega
     have hcn : cs.length = m - m0 := by have h1 := HLM.out; have h2 := HL0.out; rw [List.length_append] at h1; omega
     have HCN := Lib.hid hcn
     clear hcn h0
     go_upto_region 15 with (go_at_call 52; refine (sortJ_any _ OWN.out HL0.out hcsl (m - m0) HCN.out).mono ?_; rintro e w6 ⟨rfl, ts, hp, hso, hown6, hk6⟩; have HP := Lib.hid hp; have HSO := Lib.hid hso; have OW6 := Lib.hid hown6; have HK6 := Lib.hid hk6; clear hp hso hown6 hk6)
     have HTS : Hid (jall s.T f (n + 1) = jall s.T f n ++ ts) := Lib.hid (by
       rw [HSU.out, ← sort_jnode HJC.out.dif HALL.out HP.out HSO.out])
     have HLT : Hid ((jall s.T f n ++ ts).length = m) := Lib.hid (by
       rw [← HLM.out, List.length_append, List.length_append]
       have := HP.out.1
       simp at this
       omega)
     have HKW : Hid (Kept [] w2 w6) := Lib.hid (kept_fresh HKQ.out HK6.out (by have := HBASE.out; simp; omega))
     go_wp2_with fail
     exact ⟨⟨n + 1, _, m, c, by omega, by go_num, rfl, Lib.hid (by rw [HTS.out]; exact HLT.out), Lib.hid (by rw [HTS.out]; exact OW6.out), HKW⟩, by simp [intOf]; omega⟩
 · intro x y left2 w5 cnt5 hwx hwy hnc hcame hrg5 hlt5 hk5 hs5 hne5 hen
   obtain ⟨a, d, ekey⟩ : ∃ a d : Nat, (.agg #[.int .i64 x, .int .i64 y] : Value) = pv2 a d := by
     by_cases h : ∃ a d : Nat, (.agg #[.int .i64 x, .int .i64 y] : Value) = pv2 a d
     · exact h
     · exact absurd (HM.out.jno n _ hiK (fun a d e => h ⟨a, d, e⟩)) hne5
   obtain ⟨rfl, rfl⟩ : x = (a : Int) ∧ y = (d : Int) := by unfold pv2 at ekey; simpa using ekey
   clear ekey
   have ejv : G.jv n (.agg #[.int .i64 (a : Int), .int .i64 (d : Int)]) = xv (s.T n a d) := HM.out.hj n a d hiK
   have hTne : s.T n a d ≠ top := fun h => hne5 (by rw [ejv, h]; rfl)
   obtain ⟨x0, x1, x2, ex⟩ : ∃ x0 x1 x2, (s.T n a d).1 = ⟨x0, x1, x2⟩ := ⟨_, _, _, rfl⟩
   have ejx : G.jv n (.agg #[.int .i64 (a : Int), .int .i64 (d : Int)]) = .agg #[.int .i64 x0, .int .i64 x1, .int .i64 x2] := ejv.trans (by unfold xv; rw [ex])
   rw [ejx] at hen ⊢
   have HJC2 := Lib.hid (HJC.out.step hTne hnc hcame)
   have hrn := HRNG.out n a d hTne
   have HEJ : Hid (jOf n a d (s.T n a d) = ⟨n, a, d, x0, x1, x2⟩) := Lib.hid (by unfold jOf; rw [ex])
   have hlen2 : m + 1 ≤ 1000001 := by
     have h1 := HJC2.out.len (HRNG.out n)
     have h2 := jall_len (T := s.T) (f := f) (N := n)
     have h3 := HLM.out
     have h4 : n * (f * f) + f * f ≤ K0.n1 * (f * f) := by have h9 := Nat.mul_le_mul_right (f * f) (show n + 1 ≤ K0.n1 from hlt); rw [Nat.succ_mul] at h9; exact h9
     have h5 := HBD.out
     rw [List.length_append] at h1 h3
     simp at h1
     omega
   have OW5 := Lib.hid (own_keptT OWN.out hk5 (fun g hg hm => HRG.out.own_ne OWN.out (by rw [List.mem_singleton] at hm; subst hm; rw [hg]; simp)))
   have HRG5 := Lib.hid hrg5
   have HLT5 := Lib.hid hlt5
   have HK5 : Hid (Kept [] w2 w5) := Lib.hid (kept_fresh HKQ.out hk5 (by have := HBASE.out; simp; omega))
   clear ejv ejx hne5 hTne hcame hrg5 hk5 hs5 hwx hwy ex hlt5 hnc hrn
   go_upto_region 13 with fail
   refine wp_named (fun V => ∃ g9 g10, w5.heap.size = g9 ∧ w5.heap.size + 1 = g10 ∧ Blk V g9 [.int .i64 (a : Nat), .int .i64 (d : Nat)] ∧ Blk V g10 [.int .i64 x0, .int .i64 x1, .int .i64 x2] ∧ Kept [] w5 V) ⟨_, _, rfl, rfl, ?_, ?_, ?_⟩ ?_
   · exact ((Kept.refl [] _).alloc _).blk (by simp) (Blk.new _ _ _ _ rfl)
   · exact Blk.new _ _ _ _ (by simp)
   · exact ((Kept.refl [] w5).alloc _).alloc _
   rintro V9 ⟨g9, g10, eg9, eg10, B9, B10, hkV9⟩
   rw [eg10, eg9]
   have HK9 : Hid (Kept [] w2 V9) := Lib.hid (keptTrans HK5.out hkV9)
   have HRG9 := Lib.hid (HRG5.out.kept hkV9 (by simp) (by simp))
   have OW9 := Lib.hid (own_keptT (X := []) OW5.out hkV9 (by simp))
   have ⟨L9, C9, F9⟩ := B9
   have ⟨L10, C10, F10⟩ := B10
   have HAP : Hid ((jall s.T f n ++ cs).flatMap jc ++ [.int .i64 (n : Int), .int .i64 (a : Int), .int .i64 (d : Int), .int .i64 x0, .int .i64 x1, .int .i64 x2] = (jall s.T f n ++ (cs ++ [jOf n a d (s.T n a d)])).flatMap jc) := Lib.hid (by rw [HEJ.out, ← List.append_assoc]; exact jc_snoc _ ⟨n, a, d, x0, x1, x2⟩)
   have hbz : base ≤ V9.heap.size := by have h1 := HK9.out.size; have h2 := HBASE.out; omega
   clear eg9 eg10 hkV9 hen
   go_wp2_with (at_builtin; refine wpList_append_rd _ rfl _ _ 67 rfl base 73 i0 (.agg #[.int .i64 0, .int .i64 0, .int .i64 0, .int .i64 0, .int .i64 0, .int .i64 0]) 6 48 Tryz.underlying67 hi hz0 hz1 hz2 rfl (by decide) (.slice A m c) m _ rfl (own_keptT (X := []) OW9.out ((Kept.refl _ _).alloc _) (by simp)) (some ⟨V9.heap.size, 0, none⟩) 1 1 [.int .i64 (n : Int), .int .i64 (a : Int), .int .i64 (d : Int), .int .i64 x0, .int .i64 x1, .int .i64 x2] rfl (Rd.newJ _ _ _ _ _ rfl rfl) (fun h => by cases h) (by intro u hu; simp at hu; rcases hu with rfl | rfl | rfl | rfl | rfl | rfl <;> rfl) (m + 1) rfl _ HAP.out (by unfold maxLen; omega) (by omega) (by simp; omega) ?_; intro A8 c8 w8 hown8 hk8 hat8; have HO8 := Lib.hid hown8; have HK8 := Lib.hid hk8; clear hown8 hk8 hat8)
   have HRG8 := Lib.hid ((HRG9.out.kept ((Kept.refl [] _).alloc (.cells #[.int .i64 (n : Int), .int .i64 (a : Int), .int .i64 (d : Int), .int .i64 x0, .int .i64 x1, .int .i64 x2] 73)) (by simp) (by simp)).kept HK8.out (fun b hb hm => by have h1 := HMB.out b hb; have h2 := own_ge OW9.out (by simpa using hm); omega) (HRG9.out.own_ne OW9.out))
   exact ⟨⟨left2, cnt5, A8, m + 1, c8, _, rfl, Lib.hid (by rw [← List.append_assoc, List.length_append, HLM.out]; rfl), HO8, HJC2, HRG8, Lib.hid ((HK9.out.alloc _).next HK8.out (fun y hy => Or.inr (by have := own_ge OW9.out (by simpa using hy); have := HBASE.out; omega)))⟩, by rw [HRG8.out.left_eq, HRG.out.left_eq]; exact HLT5.out⟩
end Go.Proofs.YtincpmdldpakkaaGreatDoor
namespace Go.Proofs.YtincpmdldpakkaaGreatDoor
open Go.RowKit Go.Df
attribute [local go_sem ↓] Go.wp_at_zero Go.wp_at_succ
set_option maxRecDepth 100000 in
set_option maxHeartbeats 4000000 in
theorem rpairs_any (A : Option Addr) (n c : Nat) (F : Int) (l : List Sp.Xp) (w : World) (hp : Xps w A n l) :
   Calls Tryz.prog 29 #[.slice A n c, .int .i64 F] w fun e w' => e = .returned (.int .i64 (Sp.pairsErr F l)) ∧ Below w.heap.size w w' := by
 have HP := Lib.hid hp
 have HL := Lib.hid hp.1
 clear hp
 by_cases t1 : 8192 < n
 · have d1 : decide ((8192 : Int) < n) = true := by simp; omega
   go_enter Tryz.func29, Tryz.ntmps29
   go_wp2_with fail
   go_ret
   exact ⟨ret_int (by unfold Sp.pairsErr; rw [HL.out, if_pos (by omega)]), Below.refl _ _⟩
 have d1 : decide ((8192 : Int) < n) = false := by simp; omega
 have h8 : Hid (l.length ≤ 8192) := by show _ ≤ _; rw [HL.out]; omega
 go_enter Tryz.func29, Tryz.ntmps29
 go_wp2_with fail
 go_loopw [5] (fun i wr => ∃ j : Nat, j ≤ n ∧ i = .int .i64 j ∧ Kept [] w wr ∧ Hid (∀ x, x < j → Sp.pairErr F l x = 0)) (fun i _ => n - (intOf i).toNat)
 case atStart => exact ⟨0, Nat.zero_le _, rfl, Kept.refl _ _, Lib.hid (fun j hj => absurd hj (by omega))⟩
 case round =>
   obtain ⟨j, hj, rfl, hkr, hno⟩ := hrel
   have hBr := hkr.toBelow
   by_cases hlt : j < n
   · obtain ⟨b, o, rfl, hl, hc⟩ := (HP.out.later hBr).2 (by omega)
     obtain ⟨h1, h2, h3, h4, h5⟩ := hc j hlt
     have HC := Lib.hid hc
     have LB := Lib.hid hl
     clear hc
     obtain ⟨xi, xo, xk, xb, xc, en⟩ : ∃ xi xo xk xb xc, Sp.gx l j = ⟨xi, xo, xk, xb, xc⟩ := ⟨_, _, _, _, _, rfl⟩
     rw [en] at h1 h2 h3 h4 h5
     have HE := Lib.hid en
     clear en
     go_upto_region 7 with fail
     refine wp_named (fun V => ∃ g, wr.heap.size = g ∧ Blk V g [.int .i64 xi, .int .i64 xo, .int .i64 xk, .int .i64 xb, .int .i64 xc] ∧ Kept [] wr V) ⟨_, rfl, Blk.new _ _ _ _ rfl, (Kept.refl _ _).alloc _⟩ ?_
     rintro V ⟨g, eg, Bg, hkV⟩
     rw [eg]
     have hkw : Kept [] w V := keptTrans hkr hkV
     have ⟨LG, CG, FG⟩ := Bg
     have hBV := hkw.toBelow
     clear h1 h2 h3 h4 h5 eg
     have hbad : Hid (∀ e, Sp.pairErr F l j = e → e ≠ 0 → Sp.pairsErr F l = e) := fun e h1 h2 => Sp.pairs_hit h8.out hno.out (by rw [HL.out]; exact hlt) h1 h2
     have hstep : Hid (Sp.pairErr F l j = 0 → ∀ x, x < j + 1 → Sp.pairErr F l x = 0) := fun h0 x hx => by
       rcases Nat.lt_or_ge x j with h9 | h9
       · exact hno.out x h9
       · obtain rfl : x = j := by omega
         exact h0
     have HEr : Hid (Sp.pairErr F l j = if xi < 0 ∨ F ≤ xi ∨ xo < 0 ∨ F ≤ xo then 4 else if 0 < j ∧ Sp.lessP (Sp.gx l (j - 1)) ⟨xi, xo, xk, xb, xc⟩ = false then 13 else Sp.xerr xk xb xc) := by
       show _ = _
       unfold Sp.pairErr
       rw [HE.out]
     by_cases r0 : xi < 0
     · have z : decide (xi < 0) = true := by simpa using r0
       have hE := Lib.hid (hbad.out 4 (by rw [HEr.out, if_pos (by omega)]) (by omega))
       go_wp2_with fail
       go_ret
       exact ⟨ret_int hE.out.symm, hBV⟩
     have z0 : decide (xi < 0) = false := by simpa using r0
     by_cases r1 : F ≤ xi
     · have z : decide (F ≤ xi) = true := by simpa using r1
       have hE := Lib.hid (hbad.out 4 (by rw [HEr.out, if_pos (by omega)]) (by omega))
       go_wp2_with fail
       go_ret
       exact ⟨ret_int hE.out.symm, hBV⟩
     have z1 : decide (F ≤ xi) = false := by simpa using r1
     by_cases r2 : xo < 0
     · have z : decide (xo < 0) = true := by simpa using r2
       have hE := Lib.hid (hbad.out 4 (by rw [HEr.out, if_pos (by omega)]) (by omega))
       go_wp2_with fail
       go_ret
       exact ⟨ret_int hE.out.symm, hBV⟩
     have z2 : decide (xo < 0) = false := by simpa using r2
     by_cases r3 : F ≤ xo
     · have z : decide (F ≤ xo) = true := by simpa using r3
       have hE := Lib.hid (hbad.out 4 (by rw [HEr.out, if_pos (by omega)]) (by omega))
       go_wp2_with fail
       go_ret
       exact ⟨ret_int hE.out.symm, hBV⟩
     have z3 : decide (F ≤ xo) = false := by simpa using r3
     have HEy : Hid (Sp.pairErr F l j = if 0 < j ∧ Sp.lessP (Sp.gx l (j - 1)) ⟨xi, xo, xk, xb, xc⟩ = false then 13 else Sp.xerr xk xb xc) := by
       show _ = _
       rw [HEr.out, if_neg (by omega)]
     clear HEr r0 r1 r2 r3
     by_cases hj0 : j = 0
     · have y1 : decide (0 < j) = false := by simp; omega
       have y2 : decide ((0 : Int) < (j : Int)) = false := by simp; omega
       have HEz : Hid (Sp.pairErr F l j = Sp.xerr xk xb xc) := by show _ = _; rw [HEy.out, if_neg (by omega)]
       clear hj0
       go_upto_region 9 with fail
       go_quiet (fail)
       go_wp2_with fail
       refine (rxcheck_any xk xb xc _).mono ?_
       rintro e w5 ⟨rfl, hb5⟩
       have hk5 : Kept [] w w5 := (hkw.drewN _).call hb5
       by_cases hx0 : Sp.xerr xk xb xc = 0
       · rw [hx0]
         have hfin := Lib.hid (hstep.out (by rw [HEz.out, hx0]))
         clear hx0
         go_wp2_with fail
         exact ⟨⟨j + 1, by omega, by go_num, hk5, hfin⟩, by simp [intOf]; omega⟩
       · have hE := Lib.hid (hbad.out _ HEz.out hx0)
         have hx0' : (Sp.xerr xk xb xc != 0) = true := by simpa using hx0
         clear hx0
         go_wp2_with fail
         go_ret
         exact ⟨ret_int hE.out.symm, hk5.toBelow⟩
     have y1 : decide (0 < j) = true := by simp; omega
     have y2 : decide ((0 : Int) < (j : Int)) = true := by simp; omega
     have y3 : IntKind.i64.wrap ((j : Int) - 1) = (j : Int) - 1 := IntWalk.i64_in _ (by omega)
     have y4 : (0 : Int) ≤ (j : Int) - 1 := by omega
     have y5 : ((j : Int) - 1).toNat = j - 1 := by omega
     have y6 : (j : Int) - 1 < (n : Int) := by omega
     have y7 : 0 < j := by omega
     have y8 : 1 ≤ j := by omega
     have y9 : (1 : Int) ≤ (j : Int) := by omega
     have y10 : j ≤ n := by omega
     have y11 : j < n + 1 := by omega
     have y12 : (j : Int) < (n : Int) + 1 := by omega
     have y13 : (j : Int) ≤ (n : Int) := by omega
     obtain ⟨p1, p2, -, -, -⟩ := HC.out (j - 1) (by omega)
     obtain ⟨pi, po, pk, pb, pc, ep⟩ : ∃ pi po pk pb pc, Sp.gx l (j - 1) = ⟨pi, po, pk, pb, pc⟩ := ⟨_, _, _, _, _, rfl⟩
     rw [ep] at p1 p2
     have q1 : V.cell? ⟨b, o + (j - 1) * 5, none⟩ = some (.int .i64 pi) := (hkV.cell b _ LB.out (by simp)).trans p1
     have q2 : V.cell? ⟨b, o + (j - 1) * 5 + 1, none⟩ = some (.int .i64 po) := (hkV.cell b _ LB.out (by simp)).trans p2
     have hbV : b < V.heap.size := Nat.lt_of_lt_of_le LB.out hkV.size
     have HEx : Hid (Sp.pairErr F l j = if Sp.lessP ⟨pi, po, pk, pb, pc⟩ ⟨xi, xo, xk, xb, xc⟩ = false then 13 else Sp.xerr xk xb xc) := by
       show _ = _
       rw [HEy.out, ep]
       simp [y7]
     clear p1 p2 ep hj0
     by_cases s1 : xi < pi
     · have u1 : decide (xi < pi) = true := by simpa using s1
       have hE := Lib.hid (hbad.out 13 (by rw [HEx.out, if_pos (by unfold Sp.lessP; simp only; rw [if_pos (by omega)]; simp; omega)]) (by omega))
       clear s1
       go_upto_region 9 with fail
       go_quiet (fail)
       go_wp2_with fail
       go_ret
       exact ⟨ret_int hE.out.symm, (hkw.drewN _).toBelow⟩
     have u1 : decide (xi < pi) = false := by simpa using s1
     by_cases s2 : pi = xi
     · have u2 : (pi == xi) = true := by simpa using s2
       by_cases s3 : xo ≤ po
       · have u3 : decide (xo ≤ po) = true := by simpa using s3
         have hE := Lib.hid (hbad.out 13 (by rw [HEx.out, if_pos (by unfold Sp.lessP; simp only; rw [if_neg (by omega)]; simp; omega)]) (by omega))
         clear s1 s2
         go_upto_region 9 with fail
         go_quiet (fail)
         go_wp2_with fail
         go_ret
         exact ⟨ret_int hE.out.symm, (hkw.drewN _).toBelow⟩
       · have u3 : decide (xo ≤ po) = false := by simpa using s3
         have HEz : Hid (Sp.pairErr F l j = Sp.xerr xk xb xc) := by show _ = _; rw [HEx.out, if_neg (by unfold Sp.lessP; simp only; rw [if_neg (by omega)]; simp; omega)]
         clear s1 s2
         go_upto_region 9 with fail
         go_quiet (fail)
         go_wp2_with fail
         refine (rxcheck_any xk xb xc _).mono ?_
         rintro e w5 ⟨rfl, hb5⟩
         have hk5 : Kept [] w w5 := (hkw.drewN _).call hb5
         by_cases hx0 : Sp.xerr xk xb xc = 0
         · rw [hx0]
           have hfin := Lib.hid (hstep.out (by rw [HEz.out, hx0]))
           clear hx0
           go_wp2_with fail
           exact ⟨⟨j + 1, by omega, by go_num, hk5, hfin⟩, by simp [intOf]; omega⟩
         · have hE := Lib.hid (hbad.out _ HEz.out hx0)
           have hx0' : (Sp.xerr xk xb xc != 0) = true := by simpa using hx0
           clear hx0
           go_wp2_with fail
           go_ret
           exact ⟨ret_int hE.out.symm, hk5.toBelow⟩
     · have u2 : (pi == xi) = false := by simpa using s2
       have HEz : Hid (Sp.pairErr F l j = Sp.xerr xk xb xc) := by show _ = _; rw [HEx.out, if_neg (by unfold Sp.lessP; simp only; rw [if_pos (by omega)]; simp; omega)]
       clear s1 s2
       go_upto_region 9 with fail
       go_quiet (fail)
       go_wp2_with fail
       refine (rxcheck_any xk xb xc _).mono ?_
       rintro e w5 ⟨rfl, hb5⟩
       have hk5 : Kept [] w w5 := (hkw.drewN _).call hb5
       by_cases hx0 : Sp.xerr xk xb xc = 0
       · rw [hx0]
         have hfin := Lib.hid (hstep.out (by rw [HEz.out, hx0]))
         clear hx0
         go_wp2_with fail
         exact ⟨⟨j + 1, by omega, by go_num, hk5, hfin⟩, by simp [intOf]; omega⟩
       · have hE := Lib.hid (hbad.out _ HEz.out hx0)
         have hx0' : (Sp.xerr xk xb xc != 0) = true := by simpa using hx0
         clear hx0
         go_wp2_with fail
         go_ret
         exact ⟨ret_int hE.out.symm, hk5.toBelow⟩
   · obtain rfl : j = n := by omega
     have hall : Hid (∀ x, x < l.length → Sp.pairErr F l x = 0) := fun x hx => hno.out x (by rw [HL.out] at hx; exact hx)
     have HZ := Lib.hid (Sp.pairs_end h8.out hall.out)
     clear hno hlt
     by_cases hn0 : j = 0
     · have k1 : ((j : Int) == 0) = true := by simp; omega
       have k2 : (j == 0) = true := by simp; omega
       have hE : Hid (Sp.pairsErr F l = 1) := by show _ = _; rw [HZ.out, if_pos (.inl (by rw [HL.out]; exact hn0))]
       have HN0 := Lib.hid hn0
       clear hn0
       go_wp2_with fail
       go_ret
       exact ⟨ret_int hE.out.symm, hBr⟩
     · have k1 : ((j : Int) == 0) = false := by simp; omega
       have k2 : (j == 0) = false := by simp; omega
       obtain ⟨b, o, rfl, hl, hc⟩ := (HP.out.later hBr).2 (by omega)
       obtain ⟨h1, h2, h3, h4, h5⟩ := hc 0 (by omega)
       simp only [Nat.zero_mul, Nat.add_zero] at h1 h2 h3 h4 h5
       obtain ⟨xi, xo, xk, xb, xc, en⟩ : ∃ xi xo xk xb xc, Sp.gx l 0 = ⟨xi, xo, xk, xb, xc⟩ := ⟨_, _, _, _, _, rfl⟩
       rw [en] at h1 h2 h3 h4 h5
       have hjp : 0 < j := by omega
       have HE : Hid (Sp.pairsErr F l = if (⟨xi, xo, xk, xb, xc⟩ : Sp.Xp) ≠ ⟨0, 0, 2, 0, 0⟩ then 1 else 0) := by
         show _ = _
         rw [HZ.out, en, HL.out]
         simp [hn0]
       clear en hc hn0
       go_wp2_with fail
       all_goals
         go_ret
         refine ⟨ret_int ?_, hBr⟩
         rw [HE.out]
         clear h1 h2 h3 h4 h5
         first | (simp_all; done) | (rw [if_pos (by intro hh; cases hh; simp_all)]) | (rw [if_neg (by simp_all)])
end Go.Proofs.YtincpmdldpakkaaGreatDoor
namespace Go.Df
open Go.RowKit
structure Gr (w : World) (A1 : Option Addr) (n1 : Nat) (A2 : Option Addr) (n2 : Nat) (ns : List Sp.Nd) (es : List Sp.Ed) : Prop where
 nd : Nds w A1 n1 ns
 ed : Eds w A2 n2 es
 wn : ∀ j, j < n1 → (Lit.int .i64 (gn ns j).f).wf = true
 we : ∀ j, j < n2 → (Lit.int .i64 (ge es j).a).wf = true ∧ (Lit.int .i64 (ge es j).b).wf = true
theorem Gr.later {w w' : World} {A1 A2 : Option Addr} {n1 n2 : Nat} {ns : List Sp.Nd} {es : List Sp.Ed} (h : Gr w A1 n1 A2 n2 ns es) (hb : Below w.heap.size w w') : Gr w' A1 n1 A2 n2 ns es := ⟨h.nd.later hb, h.ed.later hb, h.wn, h.we⟩
theorem Gr.kept {w w' : World} {A1 A2 : Option Addr} {n1 n2 : Nat} {ns : List Sp.Nd} {es : List Sp.Ed} (h : Gr w A1 n1 A2 n2 ns es) (hb : Kept [] w w') : Gr w' A1 n1 A2 n2 ns es := h.later hb.toBelow
end Go.Df
namespace Go.Proofs.YtincpmdldpakkaaGreatDoor
open Go.RowKit Go.Df
theorem post_named {P : Program} {f : Func} {Q : Ending → World → Prop} {e : Exit} {a : Act} {w : World} (S : World → Prop) (h0 : S w) (h : ∀ X, S X → bodyPost P f Q e a X) : bodyPost P f Q e a w := h w h0
theorem own_keptK {X : List Nat} {w w1 : World} {base : Nat} {e : TypeId} {k n : Nat} {v : Value} {xs : List Value} (h : w.ownsRow base e k v n xs) (hk : Kept X w w1) (hX : ∀ g, v.ownBlock = some g → g ∉ X) : w1.ownsRow base e k v n xs := by
 refine ⟨h.1, ?_⟩
 rcases h.2 with h0 | ⟨g, cap, cur, rfl, hb, hh, rest⟩
 · exact .inl h0
 · refine .inr ⟨g, cap, cur, rfl, hb, ?_, rest⟩
   rw [hk.block g (by
     rcases Nat.lt_or_ge g w.heap.size with h1 | h1
     · exact h1
     · rw [Array.getElem?_eq_none h1] at hh; cases hh) (hX g rfl)]
   exact hh
end Go.Proofs.YtincpmdldpakkaaGreatDoor
namespace Go.Proofs.YtincpmdldpakkaaGreatDoor
open Go.RowKit Go.Df Go.Df.Iv Go.Df.Sp
attribute [local go_sem ↓] Go.wp_at_zero Go.wp_at_succ
set_option maxRecDepth 100000 in
set_option maxHeartbeats 4000000 in
theorem psolve_err (A1 A2 A3 A4 : Option Addr) (n1 c1 n2 c2 n3 c3 n4 c4 : Nat) (mn F pe : Int) (w : World) (h0 : pe ≠ 0)
   (hchk : ∀ w1, Below w.heap.size w w1 → Calls Tryz.prog 31 #[.agg #[.slice A1 n1 c1, .slice A2 n2 c2, .int .i64 mn, .int .i64 F, .slice A3 n3 c3, .slice A4 n4 c4]] w1 fun e w' => e = .returned (.int .i64 pe) ∧ Below w1.heap.size w1 w') :
   Calls Tryz.prog 10 #[.agg #[.slice A1 n1 c1, .slice A2 n2 c2, .int .i64 mn, .int .i64 F, .slice A3 n3 c3, .slice A4 n4 c4]] w fun e w' => e = .returned (.tuple #[.agg #[.slice none 0 0], .int .i64 pe]) ∧ Below w.heap.size w w' := by
 have HCHK := Lib.hid hchk
 have h0' : (pe != 0) = true := by simpa using h0
 clear hchk h0
 go_enter Tryz.func10, Tryz.ntmps10
 go_upto_region 1 with fail
 refine wp_named (fun W => ∃ b0 b1, w.heap.size = b0 ∧ w.heap.size + 1 = b1 ∧ Blk W b0 [.slice A1 n1 c1, .slice A2 n2 c2, .int .i64 mn, .int .i64 F, .slice A3 n3 c3, .slice A4 n4 c4] ∧ Blk W b1 [.slice none 0 0] ∧ Below w.heap.size w W) ⟨_, _, rfl, rfl, ?_, ?_, ?_⟩ ?_
 · exact (Blk.new _ _ _ _ (by first | rfl | simp)).alloc _
 · exact kbn
 · go_grown
 rintro W ⟨b0, b1, e0, e1, B0, B1, hB⟩
 rw [e1, e0]
 have G0 : w.heap.size ≤ b0 := by omega
 have n01 : b0 ≠ b1 := by omega
 have G1 : w.heap.size ≤ b1 := by omega
 have n10 : b1 ≠ b0 := by omega
 clear e0 e1
 have ⟨L0, C0, F0⟩ := B0
 have ⟨L1, C1, F1⟩ := B1
 go_upto_region 2 with (go_at_call 31; refine (HCHK.out _ hB).mono ?_; rintro e w1 ⟨rfl, hb1⟩)
 have hk1 : Kept [] W w1 := (Kept.refl _ _).call hb1
 have B11 := hk1.blk (by simp) B1
 have ⟨L11, C11, F11⟩ := B11
 have hB1 := hk1.below hB hB.size (by simp)
 clear C1 F1
 go_wp2_with fail
 refine retNamed9 (fun X => Blk X b1 [.slice none 0 0] ∧ Kept [b1] w1 X) ⟨B11.set 0 _, (Kept.refl [b1] w1).set b1 0 _ (.inl (by simp))⟩ ?_
 rintro X ⟨BX, hkX⟩
 have ⟨LX, CX, FX⟩ := BX
 refine bodyPost_ret (by simp [results, Tryz.results10, go_sem, CX]; try rfl) rfl ?_
 exact ⟨rfl, hkX.below hB1 hB1.size (by simpa using G1)⟩
end Go.Proofs.YtincpmdldpakkaaGreatDoor
