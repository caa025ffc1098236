/- Texts: Ph Pe. -/
import Derived.Test.YtooejoajojanjaaGreatDoorXSf13
import Derived.Test.YtooejoajojanjaaGreatDoorXSf03
import Derived.Test.YtooejoajojanjaaGreatDoorXSf05
import Derived.Test.YtooejoajojanjaaGreatDoorXSf04
import Derived.Shelf.Strings.BuilderK
import Derived.Shelf.Strconv.Itoa3
import Derived.Test.YtooejoajojanjaaGreatDoorXSf07
namespace Go.Df
open Go.RowKit Go.Sort
def Fb (u8 : TypeId) (B b : Nat) (w w' : World) : Prop := Below B w w' ∧ Lib.OthersKept u8 (some b) w w'
theorem Fb.refl (u8 : TypeId) (B b : Nat) (w : World) : Fb u8 B b w w := ⟨Below.refl _ _, Lib.OthersKept.refl _ _ _⟩
theorem Fb.trans {u8 : TypeId} {B b : Nat} {w w1 w2 : World} (h : Fb u8 B b w w1) (k : Fb u8 B b w1 w2) : Fb u8 B b w w2 := ⟨h.1.trans k.1, h.2.trans k.2⟩
theorem grownBy_grow (w : World) (k : Nat) (os : Array Obj) : w.grownBy (grow (w.drewN k) os) none := by
 refine ⟨rfl, rfl, rfl, by simp, fun j hj _ => ?_⟩
 rw [heap_grow_old _ _ (by simpa using hj)]
 rfl
theorem Fb.of_kept {u8 : TypeId} {B b : Nat} {w w' : World} (hk : Kept [] w w') (hB : B ≤ w.heap.size) : Fb u8 B b w w' :=
 ⟨hk.toBelow.mono hB, fun j o hj _ _ => (hk.block j (Array.getElem?_eq_some_iff.1 hj).1 (by simp)).trans hj⟩
theorem Fb.grow {u8 : TypeId} {B b : Nat} {w : World} (hB : B ≤ w.heap.size) (k : Nat) (os : Array Obj) : Fb u8 B b w (grow (w.drewN k) os) := Fb.of_kept (by simpa using kept_grown (grownBy_grow w k os)) hB
end Go.Df
namespace Go.Proofs.YtooejoajojanjaaGreatDoor
open Go.RowKit Go.Df Go.Df.If Go.Sort
attribute [local go_sem ↓] Go.wp_at_zero Go.wp_at_succ
theorem extWs : Builder.Extra Tryz.prog layWsr := { sizeBuilder := by kernel_rfl, liesBuilder := by kernel_rfl, t5 := Tryz.underlying5, a5 := Tryz.isAgg5, z5 := Tryz.sizeOf5, v5 := Tryz.zeroValue5, infoByte := by kernel_rfl, cellsByte := by kernel_rfl, sizeByte := by kernel_rfl, neB5 := by decide }
theorem extWb : Builder.Extra Tryz.prog layWbr := { sizeBuilder := by kernel_rfl, liesBuilder := by kernel_rfl, t5 := Tryz.underlying5, a5 := Tryz.isAgg5, z5 := Tryz.sizeOf5, v5 := Tryz.zeroValue5, infoByte := by kernel_rfl, cellsByte := by kernel_rfl, sizeByte := by kernel_rfl, neB5 := by decide }
theorem extBs : Builder.Extra Tryz.prog layBsr := { sizeBuilder := by kernel_rfl, liesBuilder := by kernel_rfl, t5 := Tryz.underlying5, a5 := Tryz.isAgg5, z5 := Tryz.sizeOf5, v5 := Tryz.zeroValue5, infoByte := by kernel_rfl, cellsByte := by kernel_rfl, sizeByte := by kernel_rfl, neB5 := by decide }
def Wbd (B b : Nat) (l : Bs) (w : World) : Prop := Lib.IsBuilderF 77 5 B b (Lib.byteCells l) w
abbrev FbT (B b : Nat) (w w' : World) : Prop := Fb 5 B b w w'
theorem Wbd.kept {B b : Nat} {l : Bs} {w w' : World} (h : Wbd B b l w) (hk : Kept [] w w') : Wbd B b l w' := by
 have hbk : ∀ {j : Nat} {o : Obj}, w.heap[j]? = some o → w'.heap[j]? = some o := fun hj => (hk.block _ (Array.getElem?_eq_some_iff.1 hj).1 (by simp)).trans hj
 have hrow : ∀ {base : Nat} {e : TypeId} {k : Nat} {v : Value} {n : Nat} {xs : List Value}, w.ownsRowF base e k v n xs → w'.ownsRowF base e k v n xs := by
   intro base e k v n xs h9
   refine ⟨h9.1, ?_⟩
   rcases h9.2 with h8 | ⟨g, cap, cur, fz, e1, e2, e3, e4⟩
   · exact .inl h8
   · exact .inr ⟨g, cap, cur, fz, e1, e2, hbk e3, e4⟩
 rcases h with ⟨h1, v, h2, h3, h4⟩ | ⟨h1, v, h2, h3, h4⟩
 · exact .inl ⟨h1, v, hbk h2, hrow h3, h4⟩
 · exact .inr ⟨h1, v, hbk h2, hrow h3, h4⟩
def Tabs (B : Nat) (w : World) : Prop := ∀ w', Below B w w' → Lib.TabIs Tryz.prog w' "internal/strconv.uint64pow10" .u64 Lib.pow10Tab
theorem Tabs.later {B : Nat} {w w' : World} (h : Tabs B w) (hb : Below B w w') : Tabs B w' := fun w2 h2 => h w2 (hb.trans h2)
theorem wstr_any (B b : Nat) (l s : Bs) (w : World) (h : Wbd B b l w) (hl : l.length + s.length ≤ 140737488355328) (hB : B ≤ w.heap.size) :
   Calls Tryz.prog 40 #[.pointer (some ⟨b, 0, none⟩), .string ⟨s.toArray⟩] w fun e w' => e = .returned (.tuple #[.int .i64 s.length, .nilIface]) ∧ Wbd B b (l ++ s) w' ∧ FbT B b w w' := by
 refine Calls.mono (Any.Builder_WriteString_k layWs extWs B b (Lib.byteCells l) ⟨s.toArray⟩ w h (by rw [Lib.byteCells_length]; simpa [ByteArray.size] using hl) hB) ?_
 rintro e w' ⟨he, hb, h1, h2⟩
 refine ⟨by simpa [ByteArray.size] using he, ?_, h1, h2⟩
 unfold Wbd
 rw [Lib.byteCells_append]
 exact .inr hb
theorem wbyte_any (B b : Nat) (l : Bs) (c : UInt8) (w : World) (h : Wbd B b l w) (hl : l.length + 1 ≤ 140737488355328) (hB : B ≤ w.heap.size) (z : Int) (hz : z = (c.toNat : Int)) :
   Calls Tryz.prog 41 #[.pointer (some ⟨b, 0, none⟩), .int .u8 z] w fun e w' => e = .returned .nilIface ∧ Wbd B b (l ++ [c]) w' ∧ FbT B b w w' := by
 subst hz
 refine Calls.mono (Any.Builder_WriteByte_k layWb extWb B b (Lib.byteCells l) (c.toNat : Int) w h (by rw [Lib.byteCells_length]; exact hl) hB) ?_
 rintro e w' ⟨he, hb, h1, h2⟩
 refine ⟨he, ?_, h1, h2⟩
 unfold Wbd
 rw [Lib.byteCells_append]
 exact .inr hb
theorem wstring_any (B b : Nat) (l : Bs) (w : World) (h : Wbd B b l w) (hB : B ≤ w.heap.size) :
   Calls Tryz.prog 44 #[.pointer (some ⟨b, 0, none⟩)] w fun e w' => e = .returned (.string ⟨l.toArray⟩) ∧ Below B w w' :=
 Calls.mono (Any.Builder_String_any_k layBs extBs B b l w h hB) fun _ _ h9 => ⟨h9.1, h9.2.2.1⟩
theorem wlen_any (B b : Nat) (l : Bs) (w : World) (h : Wbd B b l w) :
   Calls Tryz.prog 43 #[.pointer (some ⟨b, 0, none⟩)] w fun e w' => e = .returned (.int .i64 l.length) ∧ w' = w := by
 have h9 := Any.Builder_Len_f layBl B b (Lib.byteCells l) w h
 rw [Lib.byteCells_length] at h9
 exact h9
theorem itoa_any (B : Nat) (n : Int) (w : World) (h0 : -9223372036854775808 ≤ n) (h1 : n ≤ 9223372036854775807) (ht : Tabs B w) :
   Calls Tryz.prog 42 #[.int .i64 n] w fun e w' => e = .returned (.string ⟨(Lib.itoa n).toArray⟩) ∧ Kept [] w w' :=
 Calls.mono (Any.strconv_Itoa layI n h0 h1 w (ht w (Below.refl _ _))) fun _ _ ⟨he, k, os, hw⟩ => ⟨he, by rw [hw]; simpa using kept_grown (grownBy_grow w k os)⟩
theorem itoa_len {n : Int} (h0 : 0 ≤ n) (h1 : n < 1000000000) : (Lib.itoa n).length ≤ 9 := by
 obtain ⟨m, rfl⟩ := Int.eq_ofNat_of_zero_le h0
 rw [itoa_nat]
 exact dec_len (k := 8) (by simp; omega)
def numsB (ns : List Int) : Bs := ns.flatMap fun x => 32 :: Lib.itoa x
theorem numsB_snoc (ns : List Int) (x : Int) : numsB (ns ++ [x]) = numsB ns ++ (32 :: Lib.itoa x) := by simp [numsB]
theorem nums_len : ∀ {ns : List Int}, (∀ x ∈ ns, 0 ≤ x ∧ x < 1000000000) → (numsB ns).length ≤ ns.length * 10
 | [], _ => by simp [numsB]
 | x :: ns, h => by
   have h1 := itoa_len (h x (by simp)).1 (h x (by simp)).2
   have h2 := nums_len (ns := ns) fun y hy => h y (List.mem_cons_of_mem _ hy)
   unfold numsB at h2 ⊢
   simp at h2 ⊢
   omega
set_option maxRecDepth 100000 in
set_option maxHeartbeats 4000000 in
theorem line_any (B b : Nat) (l word : Bs) (A : Option Addr) (n c : Nat) (ns : List Int) (w : World) (hb : Wbd B b l w) (hI : ∀ w', FbT B b w w' → Ints w' A n ns) (hn : n ≤ 10) (h0 : ∀ x ∈ ns, 0 ≤ x ∧ x < 1000000000) (hl : l.length ≤ 1000000000) (hw : word.length ≤ 10) (hB : B ≤ w.heap.size) (ht : Tabs B w) :
   Calls Tryz.prog 39 #[.string ⟨word.toArray⟩, .slice A n c, .pointer (some ⟨b, 0, none⟩)] w fun e w' => e = .returned (.tuple #[]) ∧ Wbd B b (l ++ (word ++ numsB ns ++ [10])) w' ∧ FbT B b w w' := by
 have HI := Lib.hid hI
 have HLN := Lib.hid (hI w (Fb.refl _ _ _ _)).1
 have H0 := Lib.hid h0
 have HT := Lib.hid ht
 have HBD := Lib.hid hb
 clear hI h0 ht hb
 go_enter Tryz.func39, Tryz.ntmps39
 go_upto_region 1 with (go_at_call 40; refine (wstr_any B b l word _ HBD.out (by omega) hB).mono ?_; rintro e w1 ⟨rfl, hb1, hf1⟩; have HB1 := Lib.hid hb1; have HF1 := Lib.hid hf1; clear hb1 hf1)
 go_wp2_with fail
 go_loopw [11] (fun s wr => ∃ i : Nat, i ≤ n ∧ s = .int .i64 i ∧ Hid (Wbd B b (l ++ word ++ numsB (ns.take i)) wr) ∧ Hid (FbT B b w wr)) (fun s _ => n - (intOf s).toNat)
 case atStart => exact ⟨0, Nat.zero_le _, rfl, Lib.hid (by rw [List.take_zero]; show Wbd B b (l ++ word ++ []) w1; rw [List.append_nil]; exact HB1.out), HF1⟩
 case round =>
 obtain ⟨i, hi, rfl, HBR, HFR⟩ := hrel
 have hBr : B ≤ wr.heap.size := Nat.le_trans hB HFR.out.1.size
 have HTR := Lib.hid (HT.out.later HFR.out.1)
 have HLB : Hid ((numsB (ns.take i)).length ≤ 100) := by
   show _ ≤ _
   have h1 := nums_len (ns := ns.take i) (fun x hx => H0.out x (List.mem_of_mem_take hx))
   have h2 := List.length_take_le i ns
   omega
 by_cases hlt : i < n
 case neg =>
   obtain rfl : i = n := by omega
   have HTK : Hid (ns.take i = ns) := by show _ = _; exact List.take_of_length_le (by rw [HLN.out]; exact Nat.le_refl _)
   go_wp2_with (go_at_call 41; refine (wbyte_any B b _ 10 _ HBR.out (by have := HLB.out; simp; omega) hBr 10 rfl).mono ?_; rintro e w2 ⟨rfl, hb2, hf2⟩)
   go_end0
   refine ⟨rfl, ?_, HFR.out.trans hf2⟩
   rw [HTK.out] at hb2
   simpa using hb2
 have hi9 : (i : Int) < (n : Int) := by omega
 obtain ⟨bA, oA, rfl, hlA, hcA⟩ := (HI.out _ HFR.out).2 (by omega)
 have c1 := hcA i hlt
 obtain ⟨x, hx⟩ : ∃ x, gi ns i = x := ⟨_, rfl⟩
 rw [hx] at c1
 have HX : Hid (ns.take (i + 1) = ns.take i ++ [x]) := by
   show _ = _
   have hil : i < ns.length := by rw [HLN.out]; exact hlt
   rw [List.take_succ_eq_append_getElem hil, ← gi_lt hil, hx]
 have hxr : 0 ≤ x ∧ x < 1000000000 := by
   have hil : i < ns.length := by rw [HLN.out]; exact hlt
   rw [gi_lt hil] at hx
   exact H0.out x (hx ▸ List.getElem_mem hil)
 have HXL := Lib.hid (itoa_len hxr.1 hxr.2)
 clear hcA hx
 go_upto_region 5 with (go_at_call 41; refine (wbyte_any B b _ 32 _ HBR.out (by have := HLB.out; simp; omega) hBr 32 rfl).mono ?_; rintro e w2 ⟨rfl, hb2, hf2⟩; have HB2 := Lib.hid hb2; have HF2 := Lib.hid hf2; clear hb2 hf2)
 have hB2 : B ≤ w2.heap.size := Nat.le_trans hBr HF2.out.1.size
 have HT2 := Lib.hid (HTR.out.later HF2.out.1)
 go_upto_region 6 with (first | (go_at_call 42; refine (itoa_any B x _ (by omega) (by omega) HT2.out).mono ?_; rintro e w3 ⟨rfl, hk3⟩; have HK3 := Lib.hid hk3; have HF3 : Hid (FbT B b w2 w3) := Lib.hid (Fb.of_kept hk3 hB2); clear hk3) | (go_at_call 40; refine (wstr_any B b _ (Lib.itoa x) _ (HB2.out.kept HK3.out) (by have := HLB.out; have := HXL.out; simp; omega) (Nat.le_trans hB2 HF3.out.1.size)).mono ?_; rintro e w4 ⟨rfl, hb4, hf4⟩; have HB4 := Lib.hid hb4; have HF4 := Lib.hid hf4; clear hb4 hf4))
 go_wp2_with fail
 exact ⟨⟨i + 1, by omega, by go_num, Lib.hid (by rw [HX.out, numsB_snoc]; have h9 := HB4.out; simpa using h9), Lib.hid (((HFR.out.trans HF2.out).trans HF3.out).trans HF4.out)⟩, by simp [intOf]; omega⟩
end Go.Proofs.YtooejoajojanjaaGreatDoor
namespace Go.Proofs.YtooejoajojanjaaGreatDoor
open Go.RowKit Go.Df Go.Df.If
attribute [local go_sem ↓] Go.wp_at_zero Go.wp_at_succ
def lsOf (u : Su) (k : Nat) : List Pr := if k = 0 then u.x else u.y
set_option maxRecDepth 100000 in
set_option maxHeartbeats 8000000 in
theorem sumck_any (A : Option Addr) (n c : Nat) (L : List Su) (F : Int) (w : World) (hS : SmW w A n L) (hn : n ≤ 9223372036854775807) :
   Calls Tryz.prog 11 #[.slice A n c, .int .i64 F] w fun e w' => e = .returned (.int .i64 (sumErr F L)) ∧ Below w.heap.size w w' := by
 have HS := Lib.hid hS
 have HL := Lib.hid hS.len
 clear hS
 by_cases f0 : F < 1
 · have zf : decide (F < 1) = true := by simpa using f0
   have hE : Hid (sumErr F L = 4) := by show _ = _; unfold sumErr; rw [if_pos (.inl f0)]
   go_enter Tryz.func11, Tryz.ntmps11
   go_wp2_with fail
   go_ret
   exact ⟨ret_int hE.out.symm, Below.refl _ _⟩
 have zf0 : decide (F < 1) = false := by simpa using f0
 by_cases f1 : 1024 < F
 · have zf : decide (1024 < F) = true := by simpa using f1
   have hE : Hid (sumErr F L = 4) := by show _ = _; unfold sumErr; rw [if_pos (.inr f1)]
   go_enter Tryz.func11, Tryz.ntmps11
   go_wp2_with fail
   go_ret
   exact ⟨ret_int hE.out.symm, Below.refl _ _⟩
 have zf1 : decide (1024 < F) = false := by simpa using f1
 by_cases t1 : 256 < n
 · have d1 : decide ((256 : Int) < n) = true := by simp; omega
   have hE : Hid (sumErr F L = 3) := by show _ = _; unfold sumErr; rw [if_neg (by omega), HL.out, if_pos (by omega)]
   go_enter Tryz.func11, Tryz.ntmps11
   go_wp2_with fail
   go_ret
   exact ⟨ret_int hE.out.symm, Below.refl _ _⟩
 have d1 : decide ((256 : Int) < n) = false := by simp; omega
 have HF : Hid (1 ≤ F ∧ F ≤ 1024) := Lib.hid ⟨by omega, by omega⟩
 have hn256 : n ≤ 256 := by omega
 have HFE : Hid (sumErr F L = Sp.fe (suErr F L) 0 L.length) := by
   show _ = _
   have h1 := HL.out
   unfold sumErr
   rw [if_neg (by have := HF.out; omega), if_neg (by omega)]
 clear f0 f1 t1
 go_enter Tryz.func11, Tryz.ntmps11
 go_wp2_with fail
 go_loopw [23] (fun s wr => ∃ i : Nat, i ≤ n ∧ s = .int .i64 i ∧ Hid (Kept [] w wr) ∧ Hid (∀ x, x < i → suErr F L x = 0)) (fun s _ => n - (intOf s).toNat)
 case atStart => exact ⟨0, Nat.zero_le _, rfl, Lib.hid (Kept.refl _ _), Lib.hid (fun x hx => absurd hx (by omega))⟩
 case round =>
 obtain ⟨i, hi, rfl, HKR, HNS⟩ := hrel
 by_cases hlt : i < n
 case neg =>
   obtain rfl : i = n := by omega
   have hE : Hid (sumErr F L = 0) := by
     show _ = _
     rw [HFE.out]
     exact fe_iff.2 (fun x hx => HNS.out x (by rw [HL.out] at hx; exact hx))
   go_wp2_with fail
   go_ret
   exact ⟨ret_int hE.out.symm, HKR.out.toBelow⟩
 obtain ⟨b, o, rfl, hl, hc⟩ := (HS.out.later HKR.out.toBelow).mem (by omega)
 obtain ⟨E, ne, ce, T, nt, ct, c0, c1, c2, hpx, hpy⟩ := hc i hlt
 have HPX := Lib.hid hpx
 have HPY := Lib.hid hpy
 obtain ⟨x, en⟩ : ∃ x, (gS L i).f = x := ⟨_, rfl⟩
 rw [en] at c0
 obtain ⟨ef, hef⟩ : ∃ ef, fnErr L i = ef := ⟨_, rfl⟩
 have HEF := Lib.hid hef
 have hi9 : (i : Int) < (n : Int) := by omega
 clear hc hpx hpy en hef
 go_upto_region 8 with fail
 refine wp_named (fun V => ∃ g, wr.heap.size = g ∧ Blk V g [.int .i64 x, .slice E ne ce, .slice T nt ct] ∧ Kept [] wr V) ⟨_, rfl, Blk.new _ _ _ _ rfl, (Kept.refl _ _).alloc _⟩ ?_
 rintro V ⟨g, eg, Bg, hkV⟩
 rw [eg]
 have HKV : Hid (Kept [] w V) := Lib.hid (keptTrans HKR.out hkV)
 have HPX := Lib.hid (HPX.out.later hkV.toBelow)
 have HPY := Lib.hid (HPY.out.later hkV.toBelow)
 clear eg c0 c1 c2 hl
 go_upto_region 9 with (go_at_call 34; refine (checkFunc_any _ n c L i _ (HS.out.later HKV.out.toBelow) hlt (by omega) ef HEF.out).mono ?_; rintro e w4 ⟨rfl, hb4⟩)
 have hkV4 : Kept [] V w4 := (Kept.refl _ _).call hb4
 have HKV4 : Hid (Kept [] V w4) := Lib.hid hkV4
 have ⟨LG, CG, FG⟩ := hkV4.blk (by simp) Bg
 by_cases h0 : ef = 0
 case neg =>
   have d0 : (ef != 0) = true := by simpa using h0
   have hE : Hid (sumErr F L = ef) := by
     show _ = _
     rw [HFE.out]
     exact Sp.fe_hit (fun x hx => HNS.out x hx) (by rw [HL.out]; exact hlt) (by unfold suErr; rw [HEF.out, if_pos h0]) h0
   clear h0
   go_wp2_with fail
   go_ret
   exact ⟨ret_int hE.out.symm, (keptTrans HKV.out hkV4).toBelow⟩
 subst h0
 have HSU : Hid (∀ (k : Nat) (e : Int), lsErr F (lsOf (gS L i) k) = e → e ≠ 0 → (0 < k → lsErr F (gS L i).x = 0) → sumErr F L = e) := Lib.hid (fun k e h1 h2 h3 => by
   rw [HFE.out]
   refine Sp.fe_hit (fun x hx => HNS.out x hx) (by rw [HL.out]; exact hlt) ?_ h2
   unfold suErr
   rw [if_neg (not_not_intro HEF.out)]
   unfold lsOf at h1
   by_cases hk : k = 0
   · rw [if_pos hk] at h1
     rw [h1, if_pos h2]
   · rw [if_neg hk] at h1
     rw [if_neg (not_not_intro (h3 (by omega))), h1])
 have i0 : ∀ (x y : Value) (w : World), (Instr.index 68 (.agg #[x, y]) (.int .i64 0)).run Tryz.prog w = .ok x w := fun _ _ _ => by kernel_rfl
 have i1 : ∀ (x y : Value) (w : World), (Instr.index 68 (.agg #[x, y]) (.int .i64 1)).run Tryz.prog w = .ok y w := fun _ _ _ => by kernel_rfl
 go_wp2_with fail
 go_loopw [39] (fun s wq => ∃ (k : Nat) (z : Int), k ≤ 2 ∧ z = (k : Int) ∧ s = .int .i64 z ∧ Hid (Kept [] V wq) ∧ Hid (0 < k → lsErr F (gS L i).x = 0) ∧ Hid (1 < k → lsErr F (gS L i).y = 0)) (fun s _ => 2 - (intOf s).toNat)
 case atStart => exact ⟨0, 0, by omega, rfl, rfl, HKV4, Lib.hid (fun h => absurd h (by omega)), Lib.hid (fun h => absurd h (by omega))⟩
 case round =>
 rename World => wq
 obtain ⟨k, z, hk, hz, rfl, HKQ, H0, H1⟩ := hrel
 by_cases hlk : k < 2
 case neg =>
   obtain rfl : k = 2 := by omega
   obtain rfl : z = 2 := hz
   have HFI : Hid (∀ x, x < i + 1 → suErr F L x = 0) := Lib.hid (fun x hx => by
     by_cases e : x = i
     · rw [e]; exact su_ok.2 ⟨HEF.out, H0.out (by omega), H1.out (by omega)⟩
     · exact HNS.out x (by omega))
   go_wp2_with fail
   exact ⟨⟨i + 1, by omega, by go_num, Lib.hid (keptTrans HKV.out HKQ.out), HFI⟩, by simp [intOf]; omega⟩
 have hk01 : k = 0 ∨ k = 1 := by omega
 rcases hk01 with rfl | rfl
 · as_aux_lemma =>
     obtain rfl : z = 0 := hz
     go_upto_region 14 with fail
     by_cases t8 : 8192 < ne
     · have d8 : decide ((8192 : Int) < (ne : Int)) = true := by simp; omega
       have hE : Hid (sumErr F L = 3) := Lib.hid (HSU.out 0 3 (by show lsErr F (gS L i).x = 3; unfold lsErr; rw [HPX.out.1, if_pos t8]) (by omega) (fun h => absurd h (by omega)))
       clear t8
       go_wp2_with fail
       go_ret
       exact ⟨ret_int hE.out.symm, (keptTrans HKV.out HKQ.out).toBelow⟩
     have d8 : decide ((8192 : Int) < (ne : Int)) = false := by simp; omega
     have h8 : ne ≤ 8192 := by omega
     clear t8
     go_wp2_with fail
     go_loopw [47] (fun s wx => ∃ j : Nat, j ≤ ne ∧ s = .int .i64 j ∧ Hid (Kept [] V wx) ∧ Hid (∀ x, x < j → prErr F (gS L i).x x = 0)) (fun s _ => ne - (intOf s).toNat)
     case atStart => exact ⟨0, Nat.zero_le _, rfl, HKQ, Lib.hid (fun x hx => absurd hx (by omega))⟩
     case round =>
     rename World => wx
     obtain ⟨j, hj, rfl, HKX, HNO⟩ := hrel
     by_cases hlj : j < ne
     case neg =>
       obtain rfl : j = ne := by omega
       have HLS : Hid (lsErr F (gS L i).x = 0) := Lib.hid (ls_ok.2 ⟨by rw [HPX.out.1]; exact h8, fun x hx => HNO.out x (by rw [HPX.out.1] at hx; exact hx)⟩)
       go_wp2_with fail
       exact ⟨⟨1, 1, by omega, rfl, rfl, HKX, Lib.hid (fun _ => HLS.out), Lib.hid (fun h => absurd h (by omega))⟩, by simp [intOf]⟩
     have hj9 : (j : Int) < (ne : Int) := by omega
     obtain ⟨ep, hep⟩ : ∃ ep, prErr F (gS L i).x j = ep := ⟨_, rfl⟩
     have HEP := Lib.hid hep
     clear hep
     go_upto_region 20 with (go_at_call 35; refine (checkPair_any E ne ce F (gS L i).x j _ (HPX.out.later HKX.out.toBelow) hlj (by omega) ep HEP.out).mono ?_; rintro e w5 ⟨rfl, hb5⟩)
     have HK5 : Hid (Kept [] V w5) := Lib.hid (HKX.out.call hb5)
     by_cases h0 : ep = 0
     · subst h0
       go_wp2_with fail
       exact ⟨⟨j + 1, by omega, by go_num, HK5, Lib.hid (fun x hx => by by_cases e : x = j; (· rw [e]; exact HEP.out); exact HNO.out x (by omega))⟩, by simp [intOf]; omega⟩
     · have d0 : (ep != 0) = true := by simpa using h0
       have hE : Hid (sumErr F L = ep) := Lib.hid (HSU.out 0 ep (by
         show lsErr F (gS L i).x = ep
         unfold lsErr
         rw [HPX.out.1, if_neg (by omega)]
         exact Sp.fe_hit (fun x hx => HNO.out x hx) hlj HEP.out h0) h0 (fun h => absurd h (by omega)))
       clear h0
       go_wp2_with fail
       go_ret
       exact ⟨ret_int hE.out.symm, (keptTrans HKV.out HK5.out).toBelow⟩
 · as_aux_lemma =>
     obtain rfl : z = 1 := hz
     go_upto_region 14 with fail
     by_cases t8 : 8192 < nt
     · have d8 : decide ((8192 : Int) < (nt : Int)) = true := by simp; omega
       have hE : Hid (sumErr F L = 3) := Lib.hid (HSU.out 1 3 (by show lsErr F (gS L i).y = 3; unfold lsErr; rw [HPY.out.1, if_pos t8]) (by omega) (fun _ => H0.out (by omega)))
       clear t8
       go_wp2_with fail
       go_ret
       exact ⟨ret_int hE.out.symm, (keptTrans HKV.out HKQ.out).toBelow⟩
     have d8 : decide ((8192 : Int) < (nt : Int)) = false := by simp; omega
     have h8 : nt ≤ 8192 := by omega
     clear t8
     go_wp2_with fail
     go_loopw [47] (fun s wx => ∃ j : Nat, j ≤ nt ∧ s = .int .i64 j ∧ Hid (Kept [] V wx) ∧ Hid (∀ x, x < j → prErr F (gS L i).y x = 0)) (fun s _ => nt - (intOf s).toNat)
     case atStart => exact ⟨0, Nat.zero_le _, rfl, HKQ, Lib.hid (fun x hx => absurd hx (by omega))⟩
     case round =>
     rename World => wx
     obtain ⟨j, hj, rfl, HKX, HNO⟩ := hrel
     by_cases hlj : j < nt
     case neg =>
       obtain rfl : j = nt := by omega
       have HLS : Hid (lsErr F (gS L i).y = 0) := Lib.hid (ls_ok.2 ⟨by rw [HPY.out.1]; exact h8, fun x hx => HNO.out x (by rw [HPY.out.1] at hx; exact hx)⟩)
       go_wp2_with fail
       exact ⟨⟨2, 2, by omega, rfl, rfl, HKX, Lib.hid (fun _ => H0.out (by omega)), Lib.hid (fun _ => HLS.out)⟩, by simp [intOf]⟩
     have hj9 : (j : Int) < (nt : Int) := by omega
     obtain ⟨ep, hep⟩ : ∃ ep, prErr F (gS L i).y j = ep := ⟨_, rfl⟩
     have HEP := Lib.hid hep
     clear hep
     go_upto_region 20 with (go_at_call 35; refine (checkPair_any T nt ct F (gS L i).y j _ (HPY.out.later HKX.out.toBelow) hlj (by omega) ep HEP.out).mono ?_; rintro e w5 ⟨rfl, hb5⟩)
     have HK5 : Hid (Kept [] V w5) := Lib.hid (HKX.out.call hb5)
     by_cases h0 : ep = 0
     · subst h0
       go_wp2_with fail
       exact ⟨⟨j + 1, by omega, by go_num, HK5, Lib.hid (fun x hx => by by_cases e : x = j; (· rw [e]; exact HEP.out); exact HNO.out x (by omega))⟩, by simp [intOf]; omega⟩
     · have d0 : (ep != 0) = true := by simpa using h0
       have hE : Hid (sumErr F L = ep) := Lib.hid (HSU.out 1 ep (by
         show lsErr F (gS L i).y = ep
         unfold lsErr
         rw [HPY.out.1, if_neg (by omega)]
         exact Sp.fe_hit (fun x hx => HNO.out x hx) hlj HEP.out h0) h0 (fun _ => H0.out (by omega)))
       clear h0
       go_wp2_with fail
       go_ret
       exact ⟨ret_int hE.out.symm, (keptTrans HKV.out HK5.out).toBelow⟩
end Go.Proofs.YtooejoajojanjaaGreatDoor
