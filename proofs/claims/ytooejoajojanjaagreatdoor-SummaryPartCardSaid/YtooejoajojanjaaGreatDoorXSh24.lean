/- Texts: Ng Npz Kf Nrz At Vw. -/
import Derived.Test.YtooejoajojanjaaGreatDoorXSh23
import Derived.Test.YtooejoajojanjaaGreatDoorXSh07
import Derived.Test.YtooejoajojanjaaGreatDoorXSh03
import Derived.Test.YtooejoajojanjaaGreatDoorXSh05
import Derived.Test.YtooejoajojanjaaGreatDoorXSh22
import Derived.Test.YtooejoajojanjaaGreatDoorXSh12
namespace Go.Df
open Go.RowKit
namespace If
def RwP (base : Nat) (ti : TypeId) (R : Nat → Option Addr × Nat × Nat) (L : Nat → List Pr) (n : Nat) (w : World) : Prop :=
 ∀ x, x < n → Prs w (R x).1 (R x).2.1 (L x) ∧ (R x).2.1 ≤ (R x).2.2 ∧ ∀ a, (R x).1 = some a → base ≤ a.block ∧ Tag w a.block ti
theorem prs_keptT {X : List Nat} {w w' : World} {A : Option Addr} {m : Nat} {l : List Pr} (h : Prs w A m l) (hk : Kept X w w') (hA : ∀ a, A = some a → a.block ∉ X) : Prs w' A m l :=
 ⟨h.1, fun hn => by
   obtain ⟨b, o, e, hl, hc⟩ := h.2 hn
   exact ⟨b, o, e, Nat.lt_of_lt_of_le hl hk.size, fun i hi => ⟨(hk.cell b _ hl (hA _ e)).trans (hc i hi).1, (hk.cell b _ hl (hA _ e)).trans (hc i hi).2⟩⟩⟩
theorem RwP.kept {base : Nat} {ti : TypeId} {R : Nat → Option Addr × Nat × Nat} {L : Nat → List Pr} {n : Nat} {X : List Nat} {w w' : World} (h : RwP base ti R L n w) (hk : Kept X w w') (hX : ∀ b, Tag w b ti → base ≤ b → b ∉ X) : RwP base ti R L n w' := fun x hx => by
 obtain ⟨h1, h2, h3⟩ := h x hx
 exact ⟨prs_keptT h1 hk (fun a ha => hX _ (h3 a ha).2 (h3 a ha).1), h2, fun a ha => ⟨(h3 a ha).1, (h3 a ha).2.same (hk.block _ (h3 a ha).2.lt (hX _ (h3 a ha).2 (h3 a ha).1))⟩⟩
def updP (f : Nat → Option Addr × Nat × Nat) (n : Nat) (x : Option Addr × Nat × Nat) : Nat → Option Addr × Nat × Nat := fun i => if i = n then x else f i
theorem RwP.snoc {base : Nat} {ti : TypeId} {R : Nat → Option Addr × Nat × Nat} {L : Nat → List Pr} {n : Nat} {w : World} (h : RwP base ti R L n w) {A : Option Addr} {m c : Nat} (hA : Prs w A m (L n)) (hm : m ≤ c) (ha : ∀ a, A = some a → base ≤ a.block ∧ Tag w a.block ti) : RwP base ti (updP R n (A, m, c)) L (n + 1) w := fun x hx => by
 unfold updP
 by_cases e : x = n
 · subst e; rw [if_pos rfl]; exact ⟨hA, hm, ha⟩
 · rw [if_neg e]; exact h x (by omega)
theorem rowsP_snoc (R : Nat → Option Addr × Nat × Nat) (n m c : Nat) (A : Option Addr) : ((List.range n).map fun x => Value.slice (R x).1 (R x).2.1 (R x).2.2) ++ [Value.slice A m c] = (List.range (n + 1)).map fun x => Value.slice (updP R n (A, m, c) x).1 (updP R n (A, m, c) x).2.1 (updP R n (A, m, c) x).2.2 := by
 rw [List.range_succ, List.map_append]
 congr 1
 · refine List.map_congr_left fun x hx => ?_
   have : x ≠ n := by have := List.mem_range.1 hx; omega
   simp [updP, this]
 · simp [updP]
end If
end Go.Df
namespace Go.Proofs.YtooejoajojanjaaGreatDoor
open Go.RowKit Go.Df Go.Df.If
attribute [local go_sem ↓] Go.wp_at_zero Go.wp_at_succ
theorem prowg_info : (Tryz.prog.info? 28).map (fun i => (i.zero, i.size, i.bytes)) = some (some (.slice none 0 0), 1, 24) := by kernel_rfl
set_option maxRecDepth 100000 in
set_option maxHeartbeats 4000000 in
theorem rpairsat_any {N F : Nat} {X : List Nat} {bs : Nat → Nat} {r : Nat} {T : Nat → Nat → Nat → Bool} (c n : Nat) (w : World) (hT : TabM N F X bs r w T) (hN8 : N ≤ 8192) (hF8 : F ≤ 1024) (hn : n < N) :
   Calls Tryz.prog 65 #[tabV N F r c, .int .i64 n] w fun e w' => ∃ A k cc, e = .returned (.slice A k cc) ∧ k ≤ cc ∧ Prs w' A k (tabQ F T n F) ∧ (∀ a, A = some a → w.heap.size ≤ a.block ∧ Tag w' a.block 72) ∧ Below w.heap.size w w' := by
 obtain ⟨i0, hinf0, hz0, hz1, hz2⟩ := info_parts pairi_info
 have HT := Lib.hid hT
 have hrl := hT.rl
 have hFF : F * F ≤ 1048576 := Nat.le_trans (Nat.mul_le_mul hF8 hF8) (by decide)
 clear hT
 go_enter Tryz.func65, Tryz.ntmps65
 go_upto_region 1 with fail
 refine wp_named (fun W => ∃ b0, w.heap.size = b0 ∧ Blk W b0 [.int .i64 (F : Nat), .slice (some ⟨r, 0, none⟩) N c] ∧ Below w.heap.size w W) ⟨_, rfl, ?_, ?_⟩ ?_
 · exact kbn
 · go_grown
 rintro W ⟨b0, e0, B0, hB⟩
 rw [e0]
 have G0 : w.heap.size ≤ b0 := by omega
 clear e0
 have ⟨L0, C0, F0⟩ := B0
 have hkW : Kept [] w W := (Kept.refl _ _).call hB
 have TW := Lib.hid (HT.out.kept0 hkW)
 have hwW := hkW.size
 go_wp2_with fail
 go_loopw [5, 6] (fun s5 s6 wr => ∃ (a : Nat) (A : Option Addr) (k cA : Nat), a ≤ F ∧ s6 = .int .i64 a ∧ s5 = .slice A k cA ∧ Kept [] W wr ∧ Hid ((tabQ F T n a).length = k) ∧ Hid (wr.ownsRow W.heap.size 72 2 (.slice A k cA) k (prcells (tabQ F T n a)))) (fun _ s6 _ => F - (intOf s6).toNat)
 case atStart => exact ⟨0, none, 0, 0, Nat.zero_le _, rfl, rfl, Kept.refl _ _, Lib.hid rfl, Lib.hid (World.ownsRow_nil _ _ _ _)⟩
 case round =>
 clear C0 F0
 obtain ⟨a, A, k, cA, ha, rfl, rfl, hkr, HK, OWN⟩ := hrel
 have B0r := hkr.blk (by simp) B0
 have ⟨L0r, C0r, F0r⟩ := B0r
 by_cases hlt : a < F
 case neg =>
   obtain rfl : a = F := by omega
   clear hlt
   go_wp2_with fail
   go_ret
   obtain ⟨h1, h2⟩ := Prs.own OWN.out HK.out
   exact ⟨A, k, cA, rfl, h2, h1, fun a ha => ⟨by have := (own_addr OWN.out ha).1; omega, (own_addr OWN.out ha).2.1⟩, (keptTrans hkW hkr).toBelow⟩
 have ha9 : (a : Int) < (F : Int) := by omega
 have hQL := tabQ_len F T n a
 rw [HK.out] at hQL
 have hQ2 : k + F ≤ F * F := by have h9 := Nat.mul_le_mul_right F (show a + 1 ≤ F from hlt); rw [Nat.succ_mul] at h9; omega
 clear hQL
 go_wp2_with fail
 go_loopw [5, 7] (fun s5 s7 wz => ∃ (d : Nat) (A' : Option Addr) (k' cA' : Nat), d ≤ F ∧ s7 = .int .i64 d ∧ s5 = .slice A' k' cA' ∧ Kept [] W wz ∧ Hid ((tabQ F T n a ++ tabP T n a d).length = k') ∧ Hid (wz.ownsRow W.heap.size 72 2 (.slice A' k' cA') k' (prcells (tabQ F T n a ++ tabP T n a d)))) (fun _ s7 _ => F - (intOf s7).toNat)
 case atStart => exact ⟨0, A, k, cA, Nat.zero_le _, rfl, rfl, hkr, Lib.hid (by rw [tabP_zero, List.append_nil]; exact HK.out), Lib.hid (by rw [tabP_zero, List.append_nil]; exact OWN.out)⟩
 case round =>
 clear C0r F0r
 rename World => wz
 obtain ⟨d, A', k', cA', hd, rfl, rfl, hkz, HK', OWZ⟩ := hrel
 have B0z := hkz.blk (by simp) B0
 have ⟨L0z, C0z, F0z⟩ := B0z
 by_cases hltd : d < F
 case neg =>
   obtain rfl : d = F := by omega
   have HSQ : Hid (tabQ d T n (a + 1) = tabQ d T n a ++ tabP T n a d) := Lib.hid (tabQ_succ d T n a)
   clear hltd
   go_wp2_with fail
   exact ⟨⟨a + 1, A', k', cA', by omega, by go_num, rfl, hkz, by rw [HSQ.out]; exact HK', by rw [HSQ.out]; exact OWZ⟩, by simp [intOf]; omega⟩
 have hd9 : (d : Int) < (F : Int) := by omega
 obtain ⟨v, hv⟩ : ∃ v, T n a d = v := ⟨_, rfl⟩
 have HV := Lib.hid hv
 have HSP : Hid (tabP T n a (d + 1) = tabP T n a d ++ (if v = true then [⟨(a : Int), (d : Int)⟩] else [])) := Lib.hid (by rw [tabP_succ, hv])
 have hk9 : k' + 1 ≤ 1048576 := by
   have h1 := HK'.out
   rw [List.length_append, HK.out] at h1
   have := tabP_len T n a d
   omega
 have TZ := Lib.hid (TW.out.kept0 hkz)
 clear hv
 cases v with
 | false =>
   have HSP2 : Hid (tabP T n a (d + 1) = tabP T n a d) := Lib.hid (by rw [HSP.out]; simp)
   go_wp2_with (go_at_call 64; refine (rtHas_is c a n d false _ TZ.out hN8 hF8 hn hlt hltd HV.out).mono ?_; rintro e w6 ⟨rfl, hb6⟩)
   have hk6 : Kept [] wz w6 := (Kept.refl _ _).call hb6
   exact ⟨⟨d + 1, A', k', cA', by omega, by go_num, rfl, hkz.call hb6, by rw [HSP2.out]; exact HK', by rw [HSP2.out]; exact Lib.hid (own_keptT (X := []) OWZ.out hk6 (by simp))⟩, by simp [intOf]; omega⟩
 | true =>
   have HSP2 : Hid (tabP T n a (d + 1) = tabP T n a d ++ [⟨(a : Int), (d : Int)⟩]) := Lib.hid (by rw [HSP.out]; simp)
   have HAP : Hid (prcells (tabQ F T n a ++ tabP T n a d) ++ [.int .i64 (a : Int), .int .i64 (d : Int)] = prcells (tabQ F T n a ++ tabP T n a (d + 1))) := Lib.hid (by
     rw [HSP2.out, ← List.append_assoc]
     exact prcells_snoc _ ⟨(a : Int), (d : Int)⟩)
   go_wp2_with (first
     | (go_at_call 64; refine (rtHas_is c a n d true _ TZ.out hN8 hF8 hn hlt hltd HV.out).mono ?_; rintro e w6 ⟨rfl, hb6⟩; have hk6 : Kept [] wz w6 := (Kept.refl _ _).call hb6; have hk06 := Lib.hid (hkz.call hb6); have OW6 := Lib.hid (own_keptT (X := []) OWZ.out hk6 (by simp)); have hs06 := hk06.out.size)
     | (at_builtin; refine wpList_append_rd _ rfl _ _ 28 rfl W.heap.size 72 i0 (.agg #[.int .i64 0, .int .i64 0]) 2 16 Tryz.underlying28 hinf0 hz0 hz1 hz2 rfl (by decide) (.slice A' k' cA') k' _ rfl (own_keptT (X := []) OW6.out ((Kept.refl _ _).alloc _) (by simp)) (some ⟨w6.heap.size, 0, none⟩) 1 1 [.int .i64 (a : Int), .int .i64 (d : Int)] rfl (new2T _ _ _ _ _ rfl) (fun h => by cases h) (by intro u hu; simp at hu; rcases hu with rfl | rfl <;> rfl) (k' + 1) rfl _ HAP.out (by unfold maxLen; omega) (by omega) (by simp; omega) ?_; intro A8 c8 w8 hown8 hk8 hat8; have hk9 := Lib.hid ((hk06.out.alloc (.cells #[.int .i64 (a : Int), .int .i64 (d : Int)] 72)).next hk8 (fun y hy => Or.inr (own_ge OW6.out (by simpa using hy)))); have HO8 := Lib.hid hown8; clear hown8 hk8 hat8))
   exact ⟨⟨d + 1, A8, k' + 1, c8, by omega, by go_num, rfl, hk9.out, by rw [HSP2.out, ← List.append_assoc]; exact Lib.hid (by rw [List.length_append, HK'.out]; rfl), HO8⟩, by simp [intOf]; omega⟩
end Go.Proofs.YtooejoajojanjaaGreatDoor
namespace Go.Df
open Go.RowKit
namespace Sp
theorem kindAt_lt {ns : List Nd} {f k : Int} (h : 0 ≤ kindAt ns f k) : kindAt ns f k < ns.length := by
 unfold kindAt at h ⊢
 cases hh : ns.findIdx? (fun n => n.f == f && n.k == k) with
 | none => rw [hh] at h; simp at h
 | some i =>
   have := (List.findIdx?_eq_some_iff_getElem.1 hh).1
   show (i : Int) < _
   omega
theorem whole_of {ns : List Nd} {m : Int} (h : nodesErr ns m = 0) {x : Nat} (hx : x < ns.length) : 0 ≤ kindAt ns (gn ns x).f 3 ∧ 0 ≤ kindAt ns (gn ns x).f 4 := by
 unfold nodesErr at h
 split at h
 · rename_i h0; exact absurd h h0
 · split at h
   · rename_i h1; exact absurd h h1
   · rename_i h1
     have h2 := fe_zero _ _ (Decidable.byContradiction h1) x (Nat.zero_le _) (by omega)
     unfold wholeErr at h2
     split at h2
     · cases h2
     · rename_i h3; omega
end Sp
namespace If
open Sp
noncomputable def sumOf (p : Pb) (i : Nat) : Su := ⟨(gn p.ns i).f, pairL p (kindAt p.ns (gn p.ns i).f 3).toNat, pairL p (kindAt p.ns (gn p.ns i).f 4).toNat⟩
open Classical in
/-- The summaries of the functions whose starts are reached, of the first i nodes. -/
noncomputable def sumI (p : Pb) : Nat → List Su
 | 0 => []
 | i + 1 => sumI p i ++ (if (gn p.ns i).k = 1 ∧ PE p 0 i 0 then [sumOf p i] else [])
theorem sumI_yes {p : Pb} {i : Nat} (h : (gn p.ns i).k = 1) (h2 : PE p 0 i 0) : sumI p (i + 1) = sumI p i ++ [sumOf p i] := by
 rw [sumI, if_pos ⟨h, h2⟩]
theorem sumI_no {p : Pb} {i : Nat} (h : ¬ ((gn p.ns i).k = 1 ∧ PE p 0 i 0)) : sumI p (i + 1) = sumI p i := by
 rw [sumI, if_neg h, List.append_nil]
theorem sumI_len (p : Pb) : ∀ i, (sumI p i).length ≤ i
 | 0 => Nat.le_refl _
 | i + 1 => by
   have := sumI_len p i
   by_cases h : (gn p.ns i).k = 1 ∧ PE p 0 i 0
   · rw [sumI_yes h.1 h.2]; simp; omega
   · rw [sumI_no h]; omega
structure SuR where
 f : Int
 E : Option Addr
 ne : Nat
 ce : Nat
 T : Option Addr
 nt : Nat
 ct : Nat
def sucells (l : List SuR) : List Value := l.flatMap fun x => [.int .i64 x.f, .slice x.E x.ne x.ce, .slice x.T x.nt x.ct]
theorem sucells_snoc (l : List SuR) (x : SuR) : sucells l ++ [.int .i64 x.f, .slice x.E x.ne x.ce, .slice x.T x.nt x.ct] = sucells (l ++ [x]) := by simp [sucells]
theorem sucells_at : ∀ (l : List SuR) {i : Nat} {x : SuR} (_ : l[i]? = some x), (sucells l)[i * 3]? = some (.int .i64 x.f) ∧ (sucells l)[i * 3 + 1]? = some (.slice x.E x.ne x.ce) ∧ (sucells l)[i * 3 + 2]? = some (.slice x.T x.nt x.ct)
 | [], i, x, h => by simp at h
 | y :: l, 0, x, h => by
   have : y = x := by simpa using h
   subst this
   simp [sucells]
 | y :: l, i + 1, x, h => by
   have h1 := sucells_at l (i := i) (x := x) (by simpa using h)
   have e : sucells (y :: l) = [.int .i64 y.f, .slice y.E y.ne y.ce, .slice y.T y.nt y.ct] ++ sucells l := rfl
   rw [e]
   refine ⟨?_, ?_, ?_⟩
   · rw [List.getElem?_append_right (by simp; omega), show (i + 1) * 3 - [Value.int .i64 y.f, .slice y.E y.ne y.ce, .slice y.T y.nt y.ct].length = i * 3 by simp; omega]; exact h1.1
   · rw [List.getElem?_append_right (by simp; omega), show (i + 1) * 3 + 1 - [Value.int .i64 y.f, .slice y.E y.ne y.ce, .slice y.T y.nt y.ct].length = i * 3 + 1 by simp; omega]; exact h1.2.1
   · rw [List.getElem?_append_right (by simp; omega), show (i + 1) * 3 + 2 - [Value.int .i64 y.f, .slice y.E y.ne y.ce, .slice y.T y.nt y.ct].length = i * 3 + 2 by simp; omega]; exact h1.2.2
def RwS (base : Nat) (ti : TypeId) (w : World) (l : List SuR) (L : List Su) : Prop :=
 l.length = L.length ∧ ∀ (i : Nat) (x : SuR) (u : Su), l[i]? = some x → L[i]? = some u → x.f = u.f ∧ Prs w x.E x.ne u.x ∧ Prs w x.T x.nt u.y ∧ (∀ a, x.E = some a → base ≤ a.block ∧ Tag w a.block ti) ∧ ∀ a, x.T = some a → base ≤ a.block ∧ Tag w a.block ti
theorem RwS.kept {base : Nat} {ti : TypeId} {l : List SuR} {L : List Su} {X : List Nat} {w w' : World} (h : RwS base ti w l L) (hk : Kept X w w') (hX : ∀ b, Tag w b ti → base ≤ b → b ∉ X) : RwS base ti w' l L :=
 ⟨h.1, fun i x u h1 h2 => by
   obtain ⟨e1, e2, e3, e4, e5⟩ := h.2 i x u h1 h2
   exact ⟨e1, prs_keptT e2 hk (fun a ha => hX _ (e4 a ha).2 (e4 a ha).1), prs_keptT e3 hk (fun a ha => hX _ (e5 a ha).2 (e5 a ha).1), fun a ha => ⟨(e4 a ha).1, (e4 a ha).2.same (hk.block _ (e4 a ha).2.lt (hX _ (e4 a ha).2 (e4 a ha).1))⟩, fun a ha => ⟨(e5 a ha).1, (e5 a ha).2.same (hk.block _ (e5 a ha).2.lt (hX _ (e5 a ha).2 (e5 a ha).1))⟩⟩⟩
theorem RwS.nil (base : Nat) (ti : TypeId) (w : World) : RwS base ti w [] [] := ⟨rfl, fun i x u h => by simp at h⟩
theorem RwS.snoc {base : Nat} {ti : TypeId} {w : World} {l : List SuR} {L : List Su} (h : RwS base ti w l L) {x : SuR} {u : Su} (e1 : x.f = u.f) (e2 : Prs w x.E x.ne u.x) (e3 : Prs w x.T x.nt u.y) (e4 : ∀ a, x.E = some a → base ≤ a.block ∧ Tag w a.block ti) (e5 : ∀ a, x.T = some a → base ≤ a.block ∧ Tag w a.block ti) : RwS base ti w (l ++ [x]) (L ++ [u]) := by
 refine ⟨by simp [h.1], fun i y v h1 h2 => ?_⟩
 by_cases hi : i < l.length
 · rw [List.getElem?_append_left hi] at h1
   rw [List.getElem?_append_left (by rw [← h.1]; exact hi)] at h2
   exact h.2 i y v h1 h2
 · rw [List.getElem?_append_right (by omega)] at h1
   rw [List.getElem?_append_right (by rw [← h.1]; omega), ← h.1] at h2
   have hi2 : i - l.length = 0 := by
     rcases Nat.eq_zero_or_pos (i - l.length) with h9 | h9
     · exact h9
     · rw [List.getElem?_eq_none (by simp; omega)] at h1; cases h1
   rw [hi2] at h1 h2
   have h1 : x = y := by simpa using h1
   have h2 : u = v := by simpa using h2
   subst h1 h2
   exact ⟨e1, e2, e3, e4, e5⟩
def Sums (w : World) (A : Option Addr) (n : Nat) (L : List Su) : Prop :=
 L.length = n ∧ (0 < n → ∃ b o, A = some ⟨b, o, none⟩ ∧ b < w.heap.size ∧ ∀ i u, L[i]? = some u → ∃ E ne ce T nt ct, w.cell? ⟨b, o + i * 3, none⟩ = some (.int .i64 u.f) ∧ w.cell? ⟨b, o + i * 3 + 1, none⟩ = some (.slice E ne ce) ∧ w.cell? ⟨b, o + i * 3 + 2, none⟩ = some (.slice T nt ct) ∧ Prs w E ne u.x ∧ Prs w T nt u.y)
theorem Sums.of {w : World} {base b2 : Nat} {ti te : TypeId} {A : Option Addr} {n c : Nat} {l : List SuR} {L : List Su} (h : w.ownsRow base te 3 (.slice A n c) n (sucells l)) (hl : l.length = n) (hr : RwS b2 ti w l L) : Sums w A n L := by
 refine ⟨by rw [← hr.1, hl], fun h0 => ?_⟩
 obtain ⟨g, c', hv, hb, hg, hc, -, hcell, -⟩ := own_cellsT h h0
 injection hv with e1 e2 e3
 refine ⟨g, 0, e1, hg, fun i u hu => ?_⟩
 have hi : i < l.length := by
   rcases Nat.lt_or_ge i L.length with h9 | h9
   · rw [hr.1]; exact h9
   · rw [List.getElem?_eq_none h9] at hu; cases hu
 obtain ⟨x, hx⟩ : ∃ x, l[i]? = some x := ⟨_, List.getElem?_eq_getElem hi⟩
 obtain ⟨h1, h2, h3⟩ := sucells_at l hx
 obtain ⟨f1, f2, f3, -, -⟩ := hr.2 i x u hx hu
 rw [Nat.zero_add]
 exact ⟨x.E, x.ne, x.ce, x.T, x.nt, x.ct, by rw [hcell _ (by omega), h1, f1], by rw [hcell _ (by omega), h2], by rw [hcell _ (by omega), h3], f2, f3⟩
theorem Sums.later {w w' : World} {A : Option Addr} {n : Nat} {L : List Su} (h : Sums w A n L) (hb : Below w.heap.size w w') : Sums w' A n L :=
 ⟨h.1, fun h0 => by
   obtain ⟨b, o, e, hl, hc⟩ := h.2 h0
   refine ⟨b, o, e, Nat.lt_of_lt_of_le hl hb.size, fun i u hu => ?_⟩
   obtain ⟨E, ne, ce, T, nt, ct, h1, h2, h3, h4, h5⟩ := hc i u hu
   exact ⟨E, ne, ce, T, nt, ct, (hb.cell (p := ⟨b, _, none⟩) hl).trans h1, (hb.cell (p := ⟨b, _, none⟩) hl).trans h2, (hb.cell (p := ⟨b, _, none⟩) hl).trans h3, h4.later hb, h5.later hb⟩⟩
theorem gS_some {L : List Su} {i : Nat} (h : i < L.length) : L[i]? = some (gS L i) := by
 rw [List.getElem?_eq_getElem h]
 simp [gS, h]
theorem Sums.smw {w : World} {A : Option Addr} {n : Nat} {L : List Su} (h : Sums w A n L) : SmW w A n L :=
 ⟨h.1, fun h0 => by
   obtain ⟨b, o, e, hl, hc⟩ := h.2 h0
   exact ⟨b, o, e, hl, fun i hi => hc i _ (gS_some (by rw [h.1]; exact hi))⟩⟩
end If
end Go.Df
namespace Go.Df
open Go.RowKit
end Go.Df
namespace Go.Proofs.YtooejoajojanjaaGreatDoor
open Go.RowKit Go.Df Go.Df.If
attribute [local go_sem ↓] Go.wp_at_zero Go.wp_at_succ
set_option maxHeartbeats 1000000 in
theorem rpbefore_any (a b c d : Int) (w : World) :
   Calls Tryz.prog 109 #[.agg #[.int .i64 a, .int .i64 b], .agg #[.int .i64 c, .int .i64 d]] w fun e w' => e = .returned (.bool (lessR ⟨a, b⟩ ⟨c, d⟩)) ∧ Below w.heap.size w w' := by
 go_enter Tryz.func109, Tryz.ntmps109
 go_wp2
 all_goals (go_ret; refine ⟨ret_bool ?_, by go_grown⟩; unfold lessR; simp_all; try omega)
set_option maxHeartbeats 1000000 in
theorem rsbefore_any (a b c d : Int) (w : World) :
   Calls Tryz.prog 62 #[.agg #[.int .i64 a, .int .i64 b], .agg #[.int .i64 c, .int .i64 d]] w fun e w' => e = .returned (.bool (lessD ⟨a, b⟩ ⟨c, d⟩)) ∧ Below w.heap.size w w' := by
 go_enter Tryz.func62, Tryz.ntmps62
 go_wp2
 all_goals (go_ret; refine ⟨ret_bool ?_, by go_grown⟩; unfold lessD; simp_all; try omega)
set_option maxHeartbeats 1000000 in
theorem rfits_any (a b F : Int) (w : World) :
   Calls Tryz.prog 108 #[.agg #[.int .i64 a, .int .i64 b], .int .i64 F] w fun e w' => e = .returned (.bool (decide (¬ (a < 0 ∨ F ≤ a ∨ b < 0 ∨ F ≤ b)))) ∧ Below w.heap.size w w' := by
 go_enter Tryz.func108, Tryz.ntmps108
 go_wp2
 all_goals (go_ret; refine ⟨ret_bool ?_, by go_grown⟩; (first | (simp_all; done) | (simp_all; omega) | (rw [eq_comm, decide_eq_true_eq]; omega) | (rw [eq_comm, decide_eq_false_iff_not]; omega)))
set_option maxRecDepth 100000 in
set_option maxHeartbeats 8000000 in
theorem rfcheck_any (A : Option Addr) (n c : Nat) (F : Int) (l : List Pr) (w : World) (hp : Prs w A n l) :
   Calls Tryz.prog 61 #[.slice A n c, .int .i64 F] w fun e w' => e = .returned (.int .i64 (flErr F l)) ∧ Below w.heap.size w w' := by
 have HP := Lib.hid hp
 have HL := Lib.hid hp.1
 clear hp
 by_cases f0 : F < 1
 · have z : decide (F < 1) = true := by simpa using f0
   have hE : Hid (flErr F l = 4) := by show _ = _; unfold flErr; rw [if_pos (by omega)]
   go_enter Tryz.func61, Tryz.ntmps61
   go_wp2_with fail
   go_ret
   exact ⟨ret_int hE.out.symm, Below.refl _ _⟩
 have zf0 : decide (F < 1) = false := by simpa using f0
 by_cases f1 : 1024 < F
 · have z : decide (1024 < F) = true := by simpa using f1
   have hE : Hid (flErr F l = 4) := by show _ = _; unfold flErr; rw [if_pos (by omega)]
   go_enter Tryz.func61, Tryz.ntmps61
   go_wp2_with fail
   go_ret
   exact ⟨ret_int hE.out.symm, Below.refl _ _⟩
 have zf1 : decide (1024 < F) = false := by simpa using f1
 by_cases t1 : 8192 < n
 · have d1 : decide ((8192 : Int) < n) = true := by simp; omega
   have hE : Hid (flErr F l = 3) := by show _ = _; unfold flErr; rw [if_neg (by omega), HL.out, if_pos (by omega)]
   go_enter Tryz.func61, Tryz.ntmps61
   go_wp2_with fail
   go_ret
   exact ⟨ret_int hE.out.symm, Below.refl _ _⟩
 have d1 : decide ((8192 : Int) < n) = false := by simp; omega
 have HF1 : Hid (1 ≤ F) := by show _ ≤ _; omega
 have HF2 : Hid (F ≤ 1024) := by show _ ≤ _; omega
 have h8 : Hid (l.length ≤ 8192) := by show _ ≤ _; rw [HL.out]; omega
 have hn8 : n ≤ 8192 := by omega
 clear f0 f1 t1
 go_enter Tryz.func61, Tryz.ntmps61
 go_wp2_with fail
 go_loopw [5, 6] (fun z i wr => ∃ j : Nat, j ≤ n ∧ i = .int .i64 j ∧ z = .bool (decide (∃ x, x < j ∧ gp l x = ⟨0, 0⟩)) ∧ Kept [] w wr ∧ Hid (∀ x, x < j → prErr F l x = 0)) (fun _ i _ => n - (intOf i).toNat)
 case atStart => exact ⟨0, Nat.zero_le _, rfl, congrArg Value.bool (by simp), Kept.refl _ _, Lib.hid (fun j hj => absurd hj (by omega))⟩
 case round =>
   obtain ⟨j, hj, rfl, rfl, hkr, hno⟩ := hrel
   obtain ⟨zz, hzz⟩ : ∃ zz, decide (∃ x, x < j ∧ gp l x = (⟨0, 0⟩ : Pr)) = zz := ⟨_, rfl⟩
   rw [hzz]
   have HZZ := Lib.hid hzz
   clear hzz
   have hBr := hkr.toBelow
   by_cases hlt : j < n
   · obtain ⟨b, o, rfl, hl, hc⟩ := (HP.out.later hBr).2 (by omega)
     obtain ⟨h1, h2⟩ := hc j hlt
     have HC := Lib.hid hc
     have LB := Lib.hid hl
     clear hc
     obtain ⟨xi, xo, en⟩ : ∃ xi xo, gp l j = ⟨xi, xo⟩ := ⟨_, _, rfl⟩
     rw [en] at h1 h2
     have HE := Lib.hid en
     clear en
     have hj9 : (j : Int) < (n : Int) := by omega
     have hbad : Hid (∀ e, prErr F l j = e → e ≠ 0 → flErr F l = e) := fun e h1 h2 => fl_hit HF1.out HF2.out h8.out hno.out (by rw [HL.out]; exact hlt) h1 h2
     have hstep : Hid (prErr F l j = 0 → ∀ x, x < j + 1 → prErr F l x = 0) := fun h0 x hx => by
       rcases Nat.lt_or_ge x j with h9 | h9
       · exact hno.out x h9
       · obtain rfl : x = j := by omega
         exact h0
     have HEr : Hid (prErr F l j = if xi < 0 ∨ F ≤ xi ∨ xo < 0 ∨ F ≤ xo then 4 else if 0 < j ∧ lessR (gp l (j - 1)) ⟨xi, xo⟩ = false then 13 else 0) := by
       show _ = _
       unfold prErr
       rw [HE.out]
     go_wp2_with fail
     refine (rfits_any xi xo F _).mono ?_
     rintro e w3 ⟨rfl, hb3⟩
     have hk3 : Kept [] wr w3 := (Kept.refl _ _).call hb3
     have hkw3 : Kept [] w w3 := hkr.call hb3
     by_cases r0 : xi < 0 ∨ F ≤ xi ∨ xo < 0 ∨ F ≤ xo
     · rw [decide_eq_false (not_not_intro r0)]
       have hE := Lib.hid (hbad.out 4 (by rw [HEr.out, if_pos r0]) (by omega))
       clear r0
       go_wp2_with fail
       go_ret
       exact ⟨ret_int hE.out.symm, hkw3.toBelow⟩
     rw [decide_eq_true r0]
     have HEy : Hid (prErr F l j = if 0 < j ∧ lessR (gp l (j - 1)) ⟨xi, xo⟩ = false then 13 else 0) := by
       show _ = _
       rw [HEr.out, if_neg r0]
     clear HEr r0
     replace h1 := (hk3.cell b _ LB.out (by simp)).trans h1
     replace h2 := (hk3.cell b _ LB.out (by simp)).trans h2
     have hb3' : b < w3.heap.size := Nat.lt_of_lt_of_le LB.out hk3.size
     have HNZ : Hid ((zz || (decide (xi = 0) && decide (xo = 0))) = decide (∃ x, x < j + 1 ∧ gp l x = (⟨0, 0⟩ : Pr))) := by
       show _ = _
       rw [← HZZ.out, Bool.eq_iff_iff]
       simp
       constructor
       · rintro (⟨x, h1, h2⟩ | ⟨h1, h2⟩)
         · exact ⟨x, by omega, h2⟩
         · exact ⟨j, by omega, by rw [HE.out, h1, h2]⟩
       · rintro ⟨x, h1, h2⟩
         rcases Nat.lt_or_ge x j with h3 | h3
         · exact .inl ⟨x, h3, h2⟩
         · have hxj : x = j := by omega
           rw [hxj, HE.out] at h2
           exact .inr (by simpa using h2)
     by_cases hj0 : j = 0
     · have y1 : decide (0 < j) = false := by simp; omega
       have y2 : decide ((0 : Int) < (j : Int)) = false := by simp; omega
       have hfin := Lib.hid (hstep.out (by rw [HEy.out, if_neg (by omega)]))
       clear hj0
       go_upto_region 11 with fail
       go_quiet (fail)
       by_cases exi : xi = 0
       case neg =>
         have fxi : (xi == 0) = false := by simpa using exi
         have HN2 : Hid (decide (∃ x, x < j + 1 ∧ gp l x = (⟨0, 0⟩ : Pr)) = zz) := by show _ = _; rw [← HNZ.out, decide_eq_false exi]; simp
         clear exi
         cases zz <;> (go_wp2_with fail; exact ⟨⟨j + 1, by omega, by go_num, by rw [HN2.out], hkw3.drewN _, hfin⟩, by simp [intOf]; omega⟩)
       have fxi : (xi == 0) = true := by simpa using exi
       by_cases exo : xo = 0
       · have fxo : (xo == 0) = true := by simpa using exo
         have HN2 : Hid (decide (∃ x, x < j + 1 ∧ gp l x = (⟨0, 0⟩ : Pr)) = true) := by show _ = _; rw [← HNZ.out, decide_eq_true exi, decide_eq_true exo]; simp
         clear exo exi
         cases zz <;> (go_wp2_with fail; exact ⟨⟨j + 1, by omega, by go_num, by rw [HN2.out], hkw3.drewN _, hfin⟩, by simp [intOf]; omega⟩)
       · have fxo : (xo == 0) = false := by simpa using exo
         have HN2 : Hid (decide (∃ x, x < j + 1 ∧ gp l x = (⟨0, 0⟩ : Pr)) = zz) := by show _ = _; rw [← HNZ.out, decide_eq_false exo]; simp
         clear exo exi
         cases zz <;> (go_wp2_with fail; exact ⟨⟨j + 1, by omega, by go_num, by rw [HN2.out], hkw3.drewN _, hfin⟩, by simp [intOf]; omega⟩)
     have y1 : decide (0 < j) = true := by simp; omega
     have y2 : decide ((0 : Int) < (j : Int)) = true := by simp; omega
     have y3 : IntKind.i64.wrap ((j : Int) - 1) = (j : Int) - 1 := IntWalk.i64_in _ (by omega)
     have y4 : (0 : Int) ≤ (j : Int) - 1 := by omega
     have y5 : ((j : Int) - 1).toNat = j - 1 := by omega
     have y6 : (j : Int) - 1 < (n : Int) := by omega
     have y7 : 0 < j := by omega
     have y8 : 1 ≤ j := by omega
     have y9 : (1 : Int) ≤ (j : Int) := by omega
     have y10 : j ≤ n := by omega
     have y11 : j < n + 1 := by omega
     have y12 : (j : Int) < (n : Int) + 1 := by omega
     have y13 : (j : Int) ≤ (n : Int) := by omega
     obtain ⟨p1, p2⟩ := HC.out (j - 1) (by omega)
     obtain ⟨pi, po, ep⟩ : ∃ pi po, gp l (j - 1) = ⟨pi, po⟩ := ⟨_, _, rfl⟩
     rw [ep] at p1 p2
     have q1 : w3.cell? ⟨b, o + (j - 1) * 2, none⟩ = some (.int .i64 pi) := (hk3.cell b _ LB.out (by simp)).trans p1
     have q2 : w3.cell? ⟨b, o + (j - 1) * 2 + 1, none⟩ = some (.int .i64 po) := (hk3.cell b _ LB.out (by simp)).trans p2
     have HEx : Hid (prErr F l j = if lessR ⟨pi, po⟩ ⟨xi, xo⟩ = false then 13 else 0) := by
       show _ = _
       rw [HEy.out, ep]
       simp [y7]
     clear p1 p2 ep hj0
     go_upto_region 11 with fail
     go_cut [43] (fun s wx => s = .bool (!lessR ⟨pi, po⟩ ⟨xi, xo⟩) ∧ Kept [] w3 wx)
     case first =>
       go_region_held3 (fun w' => SX0 w3 w') (exact kp0)
         (first | (go_at_call 109; refine (rpbefore_any pi po xi xo _).mono ?_; rintro e w4 ⟨rfl, hb4⟩; obtain ⟨hc4, hf4, hg4⟩ := bcell hb4; have hz4 := hb4.size; try simp at hz4))
       all_goals
         go_wp2_with fail
         go_meet
         refine ⟨rfl, ?_⟩
         (exact kpt0)
     case rest =>
       obtain ⟨rfl, hkc⟩ := hcut
       have hkwc : Kept [] w wc := keptTrans hkw3 hkc
       replace h1 := (hkc.cell b _ hb3' (by simp)).trans h1
       replace h2 := (hkc.cell b _ hb3' (by simp)).trans h2
       have hbc : b < wc.heap.size := Nat.lt_of_lt_of_le hb3' hkc.size
       clear q1 q2
       by_cases hles : lessR ⟨pi, po⟩ ⟨xi, xo⟩ = true
       · rw [hles]
         have hfin := Lib.hid (hstep.out (by rw [HEx.out, hles, if_neg (by simp)]))
         clear hles
         by_cases exi : xi = 0
         case neg =>
           have fxi : (xi == 0) = false := by simpa using exi
           have HN2 : Hid (decide (∃ x, x < j + 1 ∧ gp l x = (⟨0, 0⟩ : Pr)) = zz) := by show _ = _; rw [← HNZ.out, decide_eq_false exi]; simp
           clear exi
           cases zz <;> (go_wp2_with fail; exact ⟨⟨j + 1, by omega, by go_num, by rw [HN2.out], hkwc, hfin⟩, by simp [intOf]; omega⟩)
         have fxi : (xi == 0) = true := by simpa using exi
         by_cases exo : xo = 0
         · have fxo : (xo == 0) = true := by simpa using exo
           have HN2 : Hid (decide (∃ x, x < j + 1 ∧ gp l x = (⟨0, 0⟩ : Pr)) = true) := by show _ = _; rw [← HNZ.out, decide_eq_true exi, decide_eq_true exo]; simp
           clear exo exi
           cases zz <;> (go_wp2_with fail; exact ⟨⟨j + 1, by omega, by go_num, by rw [HN2.out], hkwc, hfin⟩, by simp [intOf]; omega⟩)
         · have fxo : (xo == 0) = false := by simpa using exo
           have HN2 : Hid (decide (∃ x, x < j + 1 ∧ gp l x = (⟨0, 0⟩ : Pr)) = zz) := by show _ = _; rw [← HNZ.out, decide_eq_false exo]; simp
           clear exo exi
           cases zz <;> (go_wp2_with fail; exact ⟨⟨j + 1, by omega, by go_num, by rw [HN2.out], hkwc, hfin⟩, by simp [intOf]; omega⟩)
       · rw [Bool.not_eq_true] at hles
         rw [hles]
         have hE := Lib.hid (hbad.out 13 (by rw [HEx.out, hles, if_pos rfl]) (by omega))
         clear hles
         go_wp2_with fail
         go_ret
         exact ⟨ret_int hE.out.symm, hkwc.toBelow⟩
   · obtain rfl : j = n := by omega
     have hall : Hid (∀ x, x < l.length → prErr F l x = 0) := fun x hx => hno.out x (by rw [HL.out] at hx; exact hx)
     have HZ := Lib.hid (fl_end HF1.out HF2.out h8.out hall.out)
     clear hno hlt
     cases zz with
     | true =>
       have hE : Hid (flErr F l = 0) := by
         show _ = _
         have h1 := of_decide_eq_true HZZ.out
         obtain ⟨x, hx, h2⟩ := h1
         rw [HZ.out, if_neg]
         rintro (h3 | h3)
         · rw [HL.out] at h3; omega
         · exact h3 (pr_first hall.out (by rw [HL.out]; exact hx) h2)
       go_wp2_with fail
       go_ret
       exact ⟨ret_int hE.out.symm, hkr.toBelow⟩
     | false =>
       have hE : Hid (flErr F l = 1) := by
         show _ = _
         have h1 := of_decide_eq_false HZZ.out
         rw [HZ.out, if_pos]
         by_cases h3 : l.length = 0
         · exact .inl h3
         · exact .inr (fun h4 => h1 ⟨0, by rw [HL.out] at h3; omega, h4⟩)
       go_wp2_with fail
       go_ret
       exact ⟨ret_int hE.out.symm, hkr.toBelow⟩
theorem rfcheck_is (A : Option Addr) (n c : Nat) (F : Int) (l : List Pr) (w : World) (hp : Prs w A n l) (pe : Int) (hpe : flErr F l = pe) :
   Calls Tryz.prog 61 #[.slice A n c, .int .i64 F] w fun e w' => e = .returned (.int .i64 pe) ∧ Below w.heap.size w w' := by
 rw [← hpe]
 exact rfcheck_any A n c F l w hp
set_option maxRecDepth 100000 in
set_option maxHeartbeats 8000000 in
theorem rifdsck_any (A1 A2 A3 A4 : Option Addr) (n1 c1 n2 c2 n3 c3 n4 c4 : Nat) (mn F : Int) (ns : List Sp.Nd) (es : List Sp.Ed) (ls : List (List Pr)) (sd : List Sd) (w : World) (hn : Nds w A1 n1 ns) (he : Eds w A2 n2 es) (hf : Flw w A3 n3 ls) (hsd : Sds w A4 n4 sd) (h4 : n4 ≤ 9223372036854775807) (hwn : ∀ j, j < n1 → (Lit.int .i64 (gn ns j).f).wf = true) (hwe : ∀ j, j < n2 → (Lit.int .i64 (ge es j).a).wf = true ∧ (Lit.int .i64 (ge es j).b).wf = true) :
   Calls Tryz.prog 28 #[.agg #[.slice A1 n1 c1, .slice A2 n2 c2, .int .i64 mn, .int .i64 F, .slice A3 n3 c3, .slice A4 n4 c4]] w fun e w' => e = .returned (.int .i64 (pbErr ⟨ns, es, mn, F, ls, sd⟩)) ∧ Below w.heap.size w w' := by
 obtain ⟨pe0, hpe0⟩ : ∃ x, pbErr ⟨ns, es, mn, F, ls, sd⟩ = x := ⟨_, rfl⟩
 rw [hpe0]
 have HPB := Lib.hid hpe0
 clear hpe0
 have HN := Lib.hid hn
 have HE := Lib.hid he
 have HF := Lib.hid hf
 have HS := Lib.hid hsd
 have HL1 := Lib.hid hn.1
 have HL2 := Lib.hid he.1
 have HL3 := Lib.hid hf.1
 have HL4 := Lib.hid hsd.1
 have HWN := Lib.hid hwn
 have HWE := Lib.hid hwe
 clear hn he hf hsd hwn hwe
 go_enter Tryz.func28, Tryz.ntmps28
 go_upto_region 1 with fail
 refine wp_named (fun W => ∃ b0, w.heap.size = b0 ∧ Blk W b0 [.slice A1 n1 c1, .slice A2 n2 c2, .int .i64 mn, .int .i64 F, .slice A3 n3 c3, .slice A4 n4 c4] ∧ Below w.heap.size w W) ⟨_, rfl, ?_, ?_⟩ ?_
 · exact kbn
 · go_grown
 rintro W ⟨b0, e0, B0, hB⟩
 rw [e0]
 have G0 : w.heap.size ≤ b0 := by omega
 clear e0
 have ⟨L0, C0, F0⟩ := B0
 go_wp2_with fail
 refine (rsuper_any _ _ _ _ _ _ _ ns es _ (HN.out.later hB) (HE.out.later hB)).mono ?_
 rintro e w1 ⟨rfl, hb1⟩
 have hk1 : Kept [] W w1 := (Kept.refl _ _).call hb1
 have hB1 := hk1.below hB hB.size (by simp)
 have ⟨L1, C1, F1⟩ := hk1.blk (by simp) B0
 clear C0 F0
 obtain ⟨se, hse⟩ : ∃ x, Sp.superErr ns es mn = x := ⟨_, rfl⟩
 rw [hse]
 have HSE := Lib.hid hse
 clear hse
 by_cases h0 : se = 0
 case neg =>
   have h0' : (se != 0) = true := by simpa using h0
   have hE : Hid (pe0 = se) := by show _ = _; rw [← HPB.out]; unfold pbErr; rw [HSE.out, if_pos h0]
   clear h0
   go_wp2_with fail
   go_ret
   exact ⟨ret_int hE.out.symm, hB1⟩
 subst h0
 by_cases f1 : F < 1
 · have z : decide (F < 1) = true := by simpa using f1
   have hE : Hid (pe0 = 4) := by show _ = _; rw [← HPB.out]; unfold pbErr; rw [HSE.out, if_neg (by simp), if_pos (show F < 1 ∨ 1024 < F by omega)]
   go_wp2_with fail
   go_ret
   exact ⟨ret_int hE.out.symm, hB1⟩
 have z1 : decide (F < 1) = false := by simpa using f1
 by_cases f2 : 1024 < F
 · have z : decide (1024 < F) = true := by simpa using f2
   have hE : Hid (pe0 = 4) := by show _ = _; rw [← HPB.out]; unfold pbErr; rw [HSE.out, if_neg (by simp), if_pos (show F < 1 ∨ 1024 < F by omega)]
   go_wp2_with fail
   go_ret
   exact ⟨ret_int hE.out.symm, hB1⟩
 have z2 : decide (1024 < F) = false := by simpa using f2
 have HFF : Hid (¬ (F < 1 ∨ 1024 < F)) := by show ¬ _; omega
 by_cases f3 : n3 = n2
 case neg =>
   have y1 : ((n3 : Int) != (n2 : Int)) = true := by simp; omega
   have y2 : (n3 != n2) = true := by simp; omega
   have hE : Hid (pe0 = 20) := by show _ = _; rw [← HPB.out]; unfold pbErr; rw [HSE.out, if_neg (by simp), if_neg HFF.out, if_pos (by rw [HL3.out, HL2.out]; exact f3)]
   go_wp2_with fail
   go_ret
   exact ⟨ret_int hE.out.symm, hB1⟩
 have y1 : ((n3 : Int) != (n2 : Int)) = false := by simp; omega
 have y2 : (n3 != n2) = false := by simp; omega
 have HLL : Hid (ls.length = es.length) := by show _ = _; rw [HL3.out, HL2.out]; exact f3
 have hn2 : n2 ≤ 32768 := by
   have h1 := HSE.out
   unfold Sp.superErr at h1
   rw [HL1.out, HL2.out] at h1
   split at h1
   · cases h1
   · omega
 subst f3
 clear f1 f2
 go_wp2_with fail
 go_loopw [4] (fun i wr => ∃ j : Nat, j ≤ n3 ∧ i = .int .i64 j ∧ Kept [] W wr ∧ Hid (∀ x, x < j → flErr F (gf ls x) = 0)) (fun i _ => n3 - (intOf i).toNat)
 case atStart => exact ⟨0, Nat.zero_le _, rfl, hk1, Lib.hid (fun j hj => absurd hj (by omega))⟩
 case round =>
   obtain ⟨j, hj, rfl, hkr, hno⟩ := hrel
   have BR := hkr.blk (by simp) B0
   have ⟨LR, CR, FR⟩ := BR
   have hBr := hkr.below hB hB.size (by simp)
   clear C1 F1
   by_cases hlt : j < n3
   · obtain ⟨b, o, rfl, hl, hc⟩ := (HF.out.later hBr).2 (by omega)
     obtain ⟨Ai, ni, ci, h1, -, hx⟩ := hc j hlt
     have HX := Lib.hid hx
     clear hc hx
     have hbad : Hid (∀ e, flErr F (gf ls j) = e → e ≠ 0 → pe0 = e) := fun e h1 h2 => HPB.out.symm.trans (pb_flow (p := ⟨ns, es, mn, F, ls, sd⟩) HSE.out HFF.out HLL.out hno.out (by show _ < ls.length; rw [HL3.out]; exact hlt) h1 h2)
     have hstep : Hid (flErr F (gf ls j) = 0 → ∀ x, x < j + 1 → flErr F (gf ls x) = 0) := fun h0 x hx => by
       rcases Nat.lt_or_ge x j with h9 | h9
       · exact hno.out x h9
       · obtain rfl : x = j := by omega
         exact h0
     obtain ⟨pe, hpe⟩ : ∃ x, flErr F (gf ls j) = x := ⟨_, rfl⟩
     have HPE := Lib.hid hpe
     clear hpe
     have x3 : (j : Int) < (n3 : Int) := by omega
     go_upto_region 11 with fail
     go_cut [5] (fun s wx => s = .int .i64 pe ∧ Kept [] wr wx)
     case first =>
       go_region_held3 (fun w' => SX0 wr w') (exact kp0)
         (first | (go_at_call 61; ((with_reducible refine (rfcheck_is _ _ _ F (gf ls j) _ (HX.out.later (Kept.toBelow (by (exact kpt0)))) pe HPE.out).mono ?_)); rintro e w3 ⟨rfl, hb3⟩; obtain ⟨hc3, hf3, hg3⟩ := bcell hb3; have hz3 := hb3.size; try simp at hz3))
       all_goals
         go_wp2_with fail
         go_meet
         refine ⟨rfl, ?_⟩
         (exact kpt0)
     case rest =>
     obtain ⟨rfl, hkc⟩ := hcut
     rename World => w5
     clear CR FR h1
     have hk5 : Kept [] W w5 := keptTrans hkr hkc
     have hB5 := hk5.below hB hB.size (by simp)
     by_cases hx0 : pe = 0
     · have hx0' : (pe != 0) = false := by simpa using hx0
       have hfin := Lib.hid (hstep.out (HPE.out.trans hx0))
       clear hx0
       go_wp2_with fail
       exact ⟨⟨j + 1, by omega, by go_num, hk5, hfin⟩, by simp [intOf]; omega⟩
     · have hx0' : (pe != 0) = true := by simpa using hx0
       have hE := Lib.hid (hbad.out pe HPE.out hx0)
       clear hx0
       go_wp2_with fail
       go_ret
       exact ⟨ret_int hE.out.symm, hB5⟩
   · obtain rfl : j = n3 := by omega
     have hall : Hid (∀ x, x < ls.length → flErr F (gf ls x) = 0) := fun x hx => hno.out x (by rw [HL3.out] at hx; exact hx)
     have HN3 : Hid (es.length = j) := Lib.hid HL2.out
     clear hno hlt hj
     go_wp2_with fail
     go_loopw [6] (fun i wz => ∃ q : Nat, q ≤ n4 ∧ i = .int .i64 q ∧ Kept [] W wz ∧ Hid (∀ x, x < q → sdErr n1 F sd x = 0)) (fun i _ => n4 - (intOf i).toNat)
     case atStart => exact ⟨0, Nat.zero_le _, rfl, hkr, Lib.hid (fun j hj => absurd hj (by omega))⟩
     case round =>
       rename World => wz
       obtain ⟨q, hq, rfl, hkz, hno⟩ := hrel
       have BZ := hkz.blk (by simp) B0
       have ⟨LZ, CZ, FZ⟩ := BZ
       have hBz := hkz.below hB hB.size (by simp)
       clear CR FR
       by_cases hlt : q < n4
       case neg =>
         obtain rfl : q = n4 := by omega
         have hE : Hid (pe0 = 0) := Lib.hid (HPB.out.symm.trans (pb_ok (p := ⟨ns, es, mn, F, ls, sd⟩) HSE.out HFF.out HLL.out hall.out (fun x hx => by show sdErr ns.length F sd x = 0; rw [HL1.out]; exact hno.out x (by rw [← HL4.out]; exact hx))))
         go_wp2_with fail
         go_ret
         exact ⟨ret_int hE.out.symm, hBz⟩
       obtain ⟨b, o, rfl, hl, hc⟩ := (HS.out.later hBz).2 (by omega)
       obtain ⟨h1, h2⟩ := hc q hlt
       have HC := Lib.hid hc
       have LB := Lib.hid hl
       clear hc
       obtain ⟨sn, sf, en⟩ : ∃ sn sf, gd sd q = ⟨sn, sf⟩ := ⟨_, _, rfl⟩
       rw [en] at h1 h2
       have HEe := Lib.hid en
       clear en
       go_upto_region 18 with fail
       refine wp_named (fun V => ∃ g, wz.heap.size = g ∧ Blk V g [.int .i64 sn, .int .i64 sf] ∧ Kept [] wz V) ⟨_, rfl, Blk.new _ _ _ _ rfl, (Kept.refl _ _).alloc _⟩ ?_
       rintro V ⟨g, eg, Bg, hkV⟩
       rw [eg]
       have hkw : Kept [] W V := keptTrans hkz hkV
       have ⟨LG, CG, FG⟩ := Bg
       have BV := hkw.blk (by simp) B0
       have ⟨LV, CV, FV⟩ := BV
       have hBV := hkw.below hB hB.size (by simp)
       clear CZ FZ h1 h2 eg
       have hbad : Hid (∀ e, sdErr n1 F sd q = e → e ≠ 0 → pe0 = e) := fun e h1 h2 => HPB.out.symm.trans (pb_seed (p := ⟨ns, es, mn, F, ls, sd⟩) HSE.out HFF.out HLL.out hall.out (j := q) (fun x hx => by show sdErr ns.length F sd x = 0; rw [HL1.out]; exact hno.out x hx) (by show _ < sd.length; rw [HL4.out]; exact hlt) (by show sdErr ns.length F sd q = e; rw [HL1.out]; exact h1) h2)
       have hstep : Hid (sdErr n1 F sd q = 0 → ∀ x, x < q + 1 → sdErr n1 F sd x = 0) := fun h0 x hx => by
         rcases Nat.lt_or_ge x q with h9 | h9
         · exact hno.out x h9
         · obtain rfl : x = q := by omega
           exact h0
       have HEr : Hid (sdErr n1 F sd q = if sn < 0 ∨ (n1 : Int) ≤ sn ∨ sf < 1 ∨ F ≤ sf then 4 else if 0 < q ∧ lessD (gd sd (q - 1)) ⟨sn, sf⟩ = false then 13 else 0) := by
         show _ = _
         unfold sdErr
         rw [HEe.out]
       by_cases r0 : sn < 0
       · have z : decide (sn < 0) = true := by simpa using r0
         have hE := Lib.hid (hbad.out 4 (by rw [HEr.out, if_pos (by omega)]) (by omega))
         go_wp2_with fail
         go_ret
         exact ⟨ret_int hE.out.symm, hBV⟩
       have r0' : decide (sn < 0) = false := by simpa using r0
       by_cases r1 : (n1 : Int) ≤ sn
       · have z : decide ((n1 : Int) ≤ sn) = true := by simpa using r1
         have hE := Lib.hid (hbad.out 4 (by rw [HEr.out, if_pos (by omega)]) (by omega))
         go_wp2_with fail
         go_ret
         exact ⟨ret_int hE.out.symm, hBV⟩
       have r1' : decide ((n1 : Int) ≤ sn) = false := by simpa using r1
       by_cases r2 : sf < 1
       · have z : decide (sf < 1) = true := by simpa using r2
         have hE := Lib.hid (hbad.out 4 (by rw [HEr.out, if_pos (by omega)]) (by omega))
         go_wp2_with fail
         go_ret
         exact ⟨ret_int hE.out.symm, hBV⟩
       have r2' : decide (sf < 1) = false := by simpa using r2
       by_cases r3 : F ≤ sf
       · have z : decide (F ≤ sf) = true := by simpa using r3
         have hE := Lib.hid (hbad.out 4 (by rw [HEr.out, if_pos (by omega)]) (by omega))
         go_wp2_with fail
         go_ret
         exact ⟨ret_int hE.out.symm, hBV⟩
       have r3' : decide (F ≤ sf) = false := by simpa using r3
       have HEy : Hid (sdErr n1 F sd q = if 0 < q ∧ lessD (gd sd (q - 1)) ⟨sn, sf⟩ = false then 13 else 0) := by
         show _ = _
         rw [HEr.out, if_neg (by omega)]
       clear HEr r0 r1 r2 r3
       by_cases hq0 : q = 0
       · have y3 : decide (0 < q) = false := by simp; omega
         have y4 : decide ((0 : Int) < (q : Int)) = false := by simp; omega
         have hfin := Lib.hid (hstep.out (by rw [HEy.out, if_neg (by omega)]))
         clear hq0
         go_upto_region 20 with fail
         go_quiet (fail)
         go_wp2_with fail
         exact ⟨⟨q + 1, by omega, by go_num, hkw.drewN _, hfin⟩, by simp [intOf]; omega⟩
       have u1 : decide (0 < q) = true := by simp; omega
       have u2 : decide ((0 : Int) < (q : Int)) = true := by simp; omega
       have u3 : IntKind.i64.wrap ((q : Int) - 1) = (q : Int) - 1 := IntWalk.i64_in _ (by omega)
       have u4 : (0 : Int) ≤ (q : Int) - 1 := by omega
       have u5 : ((q : Int) - 1).toNat = q - 1 := by omega
       have u6 : (q : Int) - 1 < (n4 : Int) := by omega
       have u7 : 0 < q := by omega
       have u8 : 1 ≤ q := by omega
       have u9 : (1 : Int) ≤ (q : Int) := by omega
       have u10 : q ≤ n4 := by omega
       have u11 : q < n4 + 1 := by omega
       have u12 : (q : Int) < (n4 : Int) + 1 := by omega
       have u13 : (q : Int) ≤ (n4 : Int) := by omega
       obtain ⟨p1, p2⟩ := HC.out (q - 1) (by omega)
       obtain ⟨pn, pf, ep⟩ : ∃ pn pf, gd sd (q - 1) = ⟨pn, pf⟩ := ⟨_, _, rfl⟩
       rw [ep] at p1 p2
       have q1 := (hkV.cell b _ LB.out (by simp)).trans p1
       have q2 := (hkV.cell b _ LB.out (by simp)).trans p2
       have hb6' : b < V.heap.size := Nat.lt_of_lt_of_le LB.out hkV.size
       have HEx : Hid (sdErr n1 F sd q = if lessD ⟨pn, pf⟩ ⟨sn, sf⟩ = false then 13 else 0) := by
         show _ = _
         rw [HEy.out, ep]
         simp [u7]
       clear p1 p2 ep hq0 HEy
       go_upto_region 20 with fail
       go_cut [96] (fun s wx => s = .bool (!lessD ⟨pn, pf⟩ ⟨sn, sf⟩) ∧ Kept [] V wx)
       case first =>
         go_region_held3 (fun w' => SX0 V w') (exact kp0)
           (first | (go_at_call 62; refine (rsbefore_any pn pf sn sf _).mono ?_; rintro e w3 ⟨rfl, hb3⟩; obtain ⟨hc3, hf3, hg3⟩ := bcell hb3; have hz3 := hb3.size; try simp at hz3))
         all_goals
           go_wp2_with fail
           go_meet
           refine ⟨rfl, ?_⟩
           (exact kpt0)
       case rest =>
         obtain ⟨rfl, hkc⟩ := hcut
         have hkwc : Kept [] W wc := keptTrans hkw hkc
         by_cases hles : lessD ⟨pn, pf⟩ ⟨sn, sf⟩ = true
         · rw [hles]
           have hfin := Lib.hid (hstep.out (by rw [HEx.out, hles, if_neg (by simp)]))
           clear hles
           go_wp2_with fail
           exact ⟨⟨q + 1, by omega, by go_num, hkwc, hfin⟩, by simp [intOf]; omega⟩
         · rw [Bool.not_eq_true] at hles
           rw [hles]
           have hE := Lib.hid (hbad.out 13 (by rw [HEx.out, hles, if_pos rfl]) (by omega))
           clear hles
           go_wp2_with fail
           go_ret
           exact ⟨ret_int hE.out.symm, hkwc.below hB hB.size (by simp)⟩
end Go.Proofs.YtooejoajojanjaaGreatDoor
namespace Go.Df
open Go.RowKit
abbrev SXv (X : List Nat) (ga gb gc : Nat) (W w' : World) : Prop := Kept X W w' ∧ (∀ o, w'.cell? ⟨ga, o, none⟩ = W.cell? ⟨ga, o, none⟩) ∧ (∀ o, w'.cell? ⟨gb, o, none⟩ = W.cell? ⟨gb, o, none⟩) ∧ (∀ o, w'.cell? ⟨gc, o, none⟩ = W.cell? ⟨gc, o, none⟩)
theorem SXv.of {X : List Nat} {ga gb gc : Nat} {W w' : World} (h : Kept X W w') (ha : ga < W.heap.size) (hb : gb < W.heap.size) (hc : gc < W.heap.size) (xa : ga ∉ X) (xb : gb ∉ X) (xc : gc ∉ X) : SXv X ga gb gc W w' := ⟨h, fun o => h.cell ga o ha xa, fun o => h.cell gb o hb xb, fun o => h.cell gc o hc xc⟩
theorem new3T (w : World) (b : Nat) (u v x : Value) (t : TypeId) (hb : b = w.heap.size) : Rd (w.alloc (.cells #[u, v, x] t)) 3 (some ⟨b, 0, none⟩) 1 [u, v, x] := by
 subst hb
 refine ⟨rfl, fun _ => ⟨_, _, rfl, by simp, fun j _ => ?_⟩⟩
 rw [World.cell?_alloc_new, Nat.zero_add]; simp
end Go.Df
namespace Go.Proofs.YtooejoajojanjaaGreatDoor
open Go.RowKit Go.Df Go.Df.If
attribute [local go_sem ↓] Go.wp_at_zero Go.wp_at_succ
theorem sum_info : (Tryz.prog.info? 30).map (fun i => (i.zero, i.size, i.bytes)) = some (some (.agg #[.int .i64 0, .slice none 0 0, .slice none 0 0]), 3, 56) := by kernel_rfl
set_option maxRecDepth 100000 in
set_option maxHeartbeats 4000000 in
theorem roffunc_any {N F : Nat} {X : List Nat} {bs : Nat → Nat} {r : Nat} {T : Nat → Nat → Nat → Bool} (c : Nat) (A1 A2 A3 A4 : Option Addr) (c1 n2 c2 n3 c3 n4 c4 : Nat) (mn FF f : Int) (ns : List Sp.Nd) (x3 x4 : Nat) (w : World) (hT : TabM N F X bs r w T) (hN8 : N ≤ 8192) (hF8 : F ≤ 1024) (hn : Nds w A1 N ns) (h3 : Sp.kindAt ns f 3 = x3) (h4 : Sp.kindAt ns f 4 = x4) (h3n : x3 < N) (h4n : x4 < N) :
   Calls Tryz.prog 59 #[.agg #[.slice A1 N c1, .slice A2 n2 c2, .int .i64 mn, .int .i64 FF, .slice A3 n3 c3, .slice A4 n4 c4], tabV N F r c, .int .i64 f] w fun e w' => ∃ (E : Option Addr) (ne ce : Nat) (Tt : Option Addr) (nt ct : Nat), e = .returned (.agg #[.int .i64 f, .slice E ne ce, .slice Tt nt ct]) ∧ Prs w' E ne (tabQ F T x3 F) ∧ Prs w' Tt nt (tabQ F T x4 F) ∧ (∀ a, E = some a → w.heap.size ≤ a.block ∧ Tag w' a.block 72) ∧ (∀ a, Tt = some a → w.heap.size ≤ a.block ∧ Tag w' a.block 72) ∧ Below w.heap.size w w' := by
 have HT := Lib.hid hT
 have HN := Lib.hid hn
 have H3 := Lib.hid h3
 have H4 := Lib.hid h4
 have hrl := hT.rl
 clear hT hn h3 h4
 go_enter Tryz.func59, Tryz.ntmps59
 go_upto_region 1 with fail
 refine wp_named (fun W => ∃ b0 b1 b2, w.heap.size = b0 ∧ w.heap.size + 1 = b1 ∧ w.heap.size + 1 + 1 = b2 ∧ Blk W b0 [.slice A1 N c1, .slice A2 n2 c2, .int .i64 mn, .int .i64 FF, .slice A3 n3 c3, .slice A4 n4 c4] ∧ Blk W b1 [.int .i64 (F : Nat), .slice (some ⟨r, 0, none⟩) N c] ∧ Blk W b2 [.int .i64 0, .slice none 0 0, .slice none 0 0] ∧ Below w.heap.size w W) ⟨_, _, _, rfl, rfl, rfl, ?_, ?_, ?_, ?_⟩ ?_
 · exact ((Blk.new _ _ _ _ (by first | rfl | simp)).alloc _).alloc _
 · exact (Blk.new _ _ _ _ (by first | rfl | simp)).alloc _
 · exact kbn
 · go_grown
 rintro W ⟨b0, b1, b2, e0, e1, e2, B0, B1, B2, hB⟩
 rw [e2, e1, e0]
 have G0 : w.heap.size ≤ b0 := by omega
 have n01 : b0 ≠ b1 := by omega
 have n02 : b0 ≠ b2 := by omega
 have G1 : w.heap.size ≤ b1 := by omega
 have n10 : b1 ≠ b0 := by omega
 have n12 : b1 ≠ b2 := by omega
 have G2 : w.heap.size ≤ b2 := by omega
 have n20 : b2 ≠ b0 := by omega
 have n21 : b2 ≠ b1 := by omega
 clear e0 e1 e2
 have ⟨L0, C0, F0⟩ := B0
 have ⟨L1, C1, F1⟩ := B1
 have ⟨L2, C2, F2⟩ := B2
 have hkW : Kept [] w W := (Kept.refl _ _).call hB
 go_upto_region 2 with fail
 refine wp_named (fun V => ∃ g, W.heap.size = g ∧ Blk V g [.int .i64 f, .slice none 0 0, .slice none 0 0] ∧ Kept [] W V) ⟨_, rfl, Blk.new _ _ _ _ rfl, (Kept.refl _ _).alloc _⟩ ?_
 rintro V ⟨g, eg, Bg, hkV⟩
 have hgW : W.heap.size ≤ g := Nat.le_of_eq eg
 rw [eg]
 have hkwV : Kept [] w V := keptTrans hkW hkV
 have B0V := hkV.blk (by simp) B0
 have B1V := hkV.blk (by simp) B1
 have B2V := hkV.blk (by simp) B2
 have hb1g : b1 ≠ g := by have := B1.1; omega
 have hb2g : b2 ≠ g := by have := B2.1; omega
 have ⟨L0V, C0V, F0V⟩ := B0V
 have HB1V := Lib.hid B1V
 have HB2V := Lib.hid B2V
 have HBg := Lib.hid Bg
 clear C0 F0 C1 F1 C2 F2 eg Bg B1V B2V
 go_upto_region 3 with (go_at_call 104; refine (exit_any A1 A2 N c1 n2 c2 mn f ns _ (HN.out.later hkwV.toBelow) (by omega)).mono ?_; rw [H3.out, H4.out]; rintro e w3 ⟨rfl, hb3⟩)
 have hk3 : Kept [] V w3 := (Kept.refl _ _).call hb3
 have hkw3 : Kept [] w w3 := keptTrans hkwV hk3
 have B13 := hk3.blk (by simp) HB1V.out
 have BG3 := hk3.blk (by simp) HBg.out
 have ⟨L13, C13, F13⟩ := B13
 have ⟨LG3, CG3, FG3⟩ := BG3
 have T3 := Lib.hid (HT.out.kept0 hkw3)
 clear C0V F0V
 go_upto_region 5 with (go_at_call 65; refine (rpairsat_any c x3 _ T3.out hN8 hF8 h3n).mono ?_; rintro e w4 ⟨A4', k4, c4', rfl, hkc4, hp4, hf4, hb4⟩; have HP4 := Lib.hid hp4; have HF4 := Lib.hid hf4; have hk34 : Kept [] w3 w4 := (Kept.refl _ _).call hb4; have ⟨LG4, CG4, FG4⟩ := hk34.blk (by simp) BG3; clear hp4 hf4)
 have hkS4 : Kept [g] w4 (w4.setCell ⟨g, 1, none⟩ (.slice A4' k4 c4')) := (Kept.refl [g] w4).set g 1 _ (.inl (by simp))
 refine wp_named (fun Z => Kept [g] w4 Z ∧ Blk Z g [.int .i64 f, .slice A4' k4 c4', .slice none 0 0]) ⟨hkS4, (hk34.blk (by simp) BG3).set 1 _⟩ ?_
 rintro Z ⟨hkZ, BGZ⟩
 have hk3Z : Kept [g] w3 Z := (keptWide hk34 (by simp)).next hkZ (fun y hy => .inl hy)
 have hkwZ : Kept [] w Z := kept_fresh hkw3 hk3Z (by simp; have := hkW.size; omega)
 have B1Z := hk3Z.blk (by simpa using hb1g) B13
 have ⟨L1Z, C1Z, F1Z⟩ := B1Z
 have ⟨LGZ, CGZ, FGZ⟩ := BGZ
 have TZ := Lib.hid (HT.out.kept0 hkwZ)
 have g4 : ∀ a, A4' = some a → a.block ∉ [g] := fun a ha hm => by have h8 := (HF4.out a ha).1; have h9 := LG3; rw [List.mem_singleton] at hm; omega
 have HPZ := Lib.hid (prs_keptT HP4.out hkZ g4)
 have HFZ : Hid (∀ a, A4' = some a → w.heap.size ≤ a.block ∧ Tag Z a.block 72) := Lib.hid (fun a ha => ⟨by have h8 := (HF4.out a ha).1; have h9 := hkw3.size; omega, (HF4.out a ha).2.same (hkZ.block _ (HF4.out a ha).2.lt (g4 a ha))⟩)
 clear C13 F13 CG3 FG3 CG4 FG4 hkS4 g4
 go_upto_region 7 with (go_at_call 65; refine (rpairsat_any c x4 _ TZ.out hN8 hF8 h4n).mono ?_; rintro e w5 ⟨A5', k5, c5', rfl, hkc5, hp5, hf5, hb5⟩; have HP5 := Lib.hid hp5; have HF5 := Lib.hid hf5; have hk5 : Kept [] Z w5 := (Kept.refl _ _).call hb5; have ⟨LG5, CG5, FG5⟩ := hk5.blk (by simp) BGZ; clear hp5 hf5)
 have hkS5 : Kept [g] w5 (w5.setCell ⟨g, 2, none⟩ (.slice A5' k5 c5')) := (Kept.refl [g] w5).set g 2 _ (.inl (by simp))
 refine wp_named (fun U => Kept [g] w5 U ∧ Blk U g [.int .i64 f, .slice A4' k4 c4', .slice A5' k5 c5']) ⟨hkS5, (hk5.blk (by simp) BGZ).set 2 _⟩ ?_
 rintro U ⟨hkU, BGU⟩
 have hkZU : Kept [g] Z U := (keptWide hk5 (by simp)).next hkU (fun y hy => .inl hy)
 have hkwU : Kept [] w U := kept_fresh hkwZ hkZU (by simp; have := hkW.size; omega)
 have B2U := hkZU.blk (by simpa using hb2g) (hk3Z.blk (by simpa using hb2g) (hk3.blk (by simp) HB2V.out))
 have ⟨L2U, C2U, F2U⟩ := B2U
 have ⟨LGU, CGU, FGU⟩ := BGU
 have gu4 : ∀ a, A4' = some a → a.block ∉ [g] := fun a ha hm => by have h8 := (HF4.out a ha).1; have h9 := LG3; rw [List.mem_singleton] at hm; omega
 have gu5 : ∀ a, A5' = some a → a.block ∉ [g] := fun a ha hm => by have h8 := (HF5.out a ha).1; have h9 := LGZ; rw [List.mem_singleton] at hm; omega
 have HPU4 := Lib.hid (prs_keptT HPZ.out hkZU gu4)
 have HPU5 := Lib.hid (prs_keptT HP5.out hkU gu5)
 have HFU4 : Hid (∀ a, A4' = some a → w.heap.size ≤ a.block ∧ Tag U a.block 72) := Lib.hid (fun a ha => ⟨(HFZ.out a ha).1, (HFZ.out a ha).2.same (hkZU.block _ (HFZ.out a ha).2.lt (gu4 a ha))⟩)
 have HFU5 : Hid (∀ a, A5' = some a → w.heap.size ≤ a.block ∧ Tag U a.block 72) := Lib.hid (fun a ha => ⟨by have h8 := (HF5.out a ha).1; have h9 := hkwZ.size; omega, (HF5.out a ha).2.same (hkU.block _ (HF5.out a ha).2.lt (gu5 a ha))⟩)
 have hgu4 : ∀ a, A4' = some a → a.block ∉ [b2] := fun a ha hm => by have h8 := (HF4.out a ha).1; have h9 := hk3.size; have h7 := HB2V.out.1; rw [List.mem_singleton] at hm; omega
 have hgu5 : ∀ a, A5' = some a → a.block ∉ [b2] := fun a ha hm => by have h8 := (HF5.out a ha).1; have h9 := hk3Z.size; have h6 := hk3.size; have h7 := HB2V.out.1; rw [List.mem_singleton] at hm; omega
 clear C1Z F1Z CGZ FGZ CG5 FG5 hkS5
 go_wp2_with fail
 refine retNamedT (fun Y => Blk Y b2 [.int .i64 f, .slice A4' k4 c4', .slice A5' k5 c5'] ∧ Kept [b2] U Y) ⟨((B2U.set 0 _).set 1 _).set 2 _, (((Kept.refl [b2] U).set b2 0 _ (.inl (by simp))).set b2 1 _ (.inl (by simp))).set b2 2 _ (.inl (by simp))⟩ ?_
 rintro Y ⟨BY, hkY⟩
 have ⟨LY, CY, FY⟩ := BY
 refine bodyPost_ret (by simp [results, Tryz.results59, go_sem, CY]; try rfl) rfl ?_
 exact ⟨A4', k4, c4', A5', k5, c5', rfl, prs_keptT HPU4.out hkY hgu4, prs_keptT HPU5.out hkY hgu5, fun a ha => ⟨(HFU4.out a ha).1, (HFU4.out a ha).2.same (hkY.block _ (HFU4.out a ha).2.lt (hgu4 a ha))⟩, fun a ha => ⟨(HFU5.out a ha).1, (HFU5.out a ha).2.same (hkY.block _ (HFU5.out a ha).2.lt (hgu5 a ha))⟩, (kept_fresh hkwU hkY (by simpa using G2)).toBelow⟩
end Go.Proofs.YtooejoajojanjaaGreatDoor
namespace Go.Df
open Go
section
variable {P : Program} {Q : Exit → Act → World → Prop} {md : Region.Mode} {S : World → Prop} {n : Nat}
end
end Go.Df
namespace Go.Df
open Go.RowKit
namespace If
open Sp
def SumAt (base : Nat) (tp : TypeId) (w : World) (g : Nat) (f : Int) (l3 l4 : List Pr) (E T : Option Addr) (ne ce nt ct : Nat) : Prop :=
 Blk w g [.int .i64 f, .slice E ne ce, .slice T nt ct] ∧ Prs w E ne l3 ∧ Prs w T nt l4 ∧ (∀ a, E = some a → base ≤ a.block ∧ Tag w a.block tp) ∧ ∀ a, T = some a → base ≤ a.block ∧ Tag w a.block tp
theorem SumAt.of {base base' g : Nat} {tp : TypeId} {w w' : World} {f : Int} {l3 l4 : List Pr} {E T : Option Addr} {ne ce nt ct : Nat} {X : List Nat} (hbb : base ≤ base') (hB : Blk w' g [.int .i64 f, .slice E ne ce, .slice T nt ct]) (h3 : Prs w E ne l3) (h4 : Prs w T nt l4) (f3 : ∀ a, E = some a → base' ≤ a.block ∧ Tag w a.block tp) (f4 : ∀ a, T = some a → base' ≤ a.block ∧ Tag w a.block tp) (hk : Kept X w w') (hX : ∀ x ∈ X, x < base') : SumAt base tp w' g f l3 l4 E T ne ce nt ct := by
 have hE : ∀ a, E = some a → a.block ∉ X := fun a ha hm => by have h1 := hX _ hm; have h2 := (f3 a ha).1; omega
 have hT : ∀ a, T = some a → a.block ∉ X := fun a ha hm => by have h1 := hX _ hm; have h2 := (f4 a ha).1; omega
 exact ⟨hB, prs_keptT h3 hk hE, prs_keptT h4 hk hT, fun a ha => ⟨Nat.le_trans hbb (f3 a ha).1, (f3 a ha).2.same (hk.block _ (f3 a ha).2.lt (hE a ha))⟩, fun a ha => ⟨Nat.le_trans hbb (f4 a ha).1, (f4 a ha).2.same (hk.block _ (f4 a ha).2.lt (hT a ha))⟩⟩
end If
end Go.Df
namespace Go.Proofs.YtooejoajojanjaaGreatDoor
open Go.RowKit Go.Df Go.Df.If
attribute [local go_sem ↓] Go.wp_at_zero Go.wp_at_succ
end Go.Proofs.YtooejoajojanjaaGreatDoor
