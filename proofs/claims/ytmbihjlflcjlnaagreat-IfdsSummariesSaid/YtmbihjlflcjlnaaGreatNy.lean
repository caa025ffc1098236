/- A pack of texts: Ng Np. -/
import Derived.Test.YtmbihjlflcjlnaaGreatNw
import Derived.Test.YtmbihjlflcjlnaaGreatZg
/- The contracts of the reference's PairsAt and Paths. -/
namespace Go.Df
open Go.RowKit
namespace If
/-- Rows of pairs, in blocks of pairs beyond base. -/
def RwP (base : Nat) (ti : TypeId) (R : Nat → Option Addr × Nat × Nat) (L : Nat → List Pr) (n : Nat) (w : World) : Prop :=
  ∀ x, x < n → Prs w (R x).1 (R x).2.1 (L x) ∧ (R x).2.1 ≤ (R x).2.2 ∧ ∀ a, (R x).1 = some a → base ≤ a.block ∧ Tag w a.block ti
theorem prs_keptT {X : List Nat} {w w' : World} {A : Option Addr} {m : Nat} {l : List Pr} (h : Prs w A m l) (hk : Kept X w w') (hA : ∀ a, A = some a → a.block ∉ X) : Prs w' A m l :=
  ⟨h.1, fun hn => by
    obtain ⟨b, o, e, hl, hc⟩ := h.2 hn
    exact ⟨b, o, e, Nat.lt_of_lt_of_le hl hk.size, fun i hi => ⟨(hk.cell b _ hl (hA _ e)).trans (hc i hi).1, (hk.cell b _ hl (hA _ e)).trans (hc i hi).2⟩⟩⟩
theorem RwP.kept {base : Nat} {ti : TypeId} {R : Nat → Option Addr × Nat × Nat} {L : Nat → List Pr} {n : Nat} {X : List Nat} {w w' : World} (h : RwP base ti R L n w) (hk : Kept X w w') (hX : ∀ b, Tag w b ti → base ≤ b → b ∉ X) : RwP base ti R L n w' := fun x hx => by
  obtain ⟨h1, h2, h3⟩ := h x hx
  exact ⟨prs_keptT h1 hk (fun a ha => hX _ (h3 a ha).2 (h3 a ha).1), h2, fun a ha => ⟨(h3 a ha).1, (h3 a ha).2.same (hk.block _ (h3 a ha).2.lt (hX _ (h3 a ha).2 (h3 a ha).1))⟩⟩
def updP (f : Nat → Option Addr × Nat × Nat) (n : Nat) (x : Option Addr × Nat × Nat) : Nat → Option Addr × Nat × Nat := fun i => if i = n then x else f i
theorem RwP.snoc {base : Nat} {ti : TypeId} {R : Nat → Option Addr × Nat × Nat} {L : Nat → List Pr} {n : Nat} {w : World} (h : RwP base ti R L n w) {A : Option Addr} {m c : Nat} (hA : Prs w A m (L n)) (hm : m ≤ c) (ha : ∀ a, A = some a → base ≤ a.block ∧ Tag w a.block ti) : RwP base ti (updP R n (A, m, c)) L (n + 1) w := fun x hx => by
  unfold updP
  by_cases e : x = n
  · subst e; rw [if_pos rfl]; exact ⟨hA, hm, ha⟩
  · rw [if_neg e]; exact h x (by omega)
theorem rowsP_snoc (R : Nat → Option Addr × Nat × Nat) (n m c : Nat) (A : Option Addr) : ((List.range n).map fun x => Value.slice (R x).1 (R x).2.1 (R x).2.2) ++ [Value.slice A m c] = (List.range (n + 1)).map fun x => Value.slice (updP R n (A, m, c) x).1 (updP R n (A, m, c) x).2.1 (updP R n (A, m, c) x).2.2 := by
  rw [List.range_succ, List.map_append]
  congr 1
  · refine List.map_congr_left fun x hx => ?_
    have : x ≠ n := by have := List.mem_range.1 hx; omega
    simp [updP, this]
  · simp [updP]
end If
end Go.Df
namespace Go.Proofs.YtmbihjlflcjlnaaGreat
open Go.RowKit Go.Df Go.Df.If
attribute [local go_sem ↓] Go.wp_at_zero Go.wp_at_succ
theorem prowg_info : (Tryz.prog.info? 40).map (fun i => (i.zero, i.size, i.bytes)) = some (some (.slice none 0 0), 1, 24) := by kernel_rfl

set_option maxRecDepth 100000 in
set_option maxHeartbeats 4000000 in
theorem rpairsat_any {N F : Nat} {X : List Nat} {bs : Nat → Nat} {r : Nat} {T : Nat → Nat → Nat → Bool} (c n : Nat) (w : World) (hT : TabM N F X bs r w T) (hN8 : N ≤ 8192) (hF8 : F ≤ 1024) (hn : n < N) :
    Calls Tryz.prog 28 #[tabV N F r c, .int .i64 n] w fun e w' => ∃ A k cc, e = .returned (.slice A k cc) ∧ k ≤ cc ∧ Prs w' A k (tabQ F T n F) ∧ (∀ a, A = some a → w.heap.size ≤ a.block ∧ Tag w' a.block 76) ∧ Below w.heap.size w w' := by
  obtain ⟨i0, hinf0, hz0, hz1, hz2⟩ := info_parts pairi_info
  have HT := Lib.hid hT
  have hrl := hT.rl
  have hFF : F * F ≤ 1048576 := Nat.le_trans (Nat.mul_le_mul hF8 hF8) (by decide)
  clear hT
  go_enter Tryz.func28, Tryz.ntmps28
  go_upto_region 1 with fail
  refine wp_named (fun W => ∃ b0, w.heap.size = b0 ∧ Blk W b0 [.int .i64 (F : Nat), .slice (some ⟨r, 0, none⟩) N c] ∧ Below w.heap.size w W) ⟨_, rfl, ?_, ?_⟩ ?_
  · exact Blk.new _ _ _ _ (by first | rfl | simp)
  · go_grown
  rintro W ⟨b0, e0, B0, hB⟩
  rw [e0]
  have G0 : w.heap.size ≤ b0 := by omega
  clear e0
  have ⟨L0, C0, F0⟩ := B0
  have hkW : Kept [] w W := (Kept.refl _ _).call hB
  have TW := Lib.hid (HT.out.kept0 hkW)
  have hwW := hkW.size
  go_wp2_with fail
  go_loopw [5, 6] (fun s5 s6 wr => ∃ (a : Nat) (A : Option Addr) (k cA : Nat), a ≤ F ∧ s6 = .int .i64 a ∧ s5 = .slice A k cA ∧ Kept [] W wr ∧ Hid ((tabQ F T n a).length = k) ∧ Hid (wr.ownsRow W.heap.size 76 2 (.slice A k cA) k (prcells (tabQ F T n a)))) (fun _ s6 _ => F - (intOf s6).toNat)
  case atStart => exact ⟨0, none, 0, 0, Nat.zero_le _, rfl, rfl, Kept.refl _ _, Lib.hid rfl, Lib.hid (World.ownsRow_nil _ _ _ _)⟩
  case round =>
  clear C0 F0
  obtain ⟨a, A, k, cA, ha, rfl, rfl, hkr, HK, OWN⟩ := hrel
  have B0r := hkr.blk (by simp) B0
  have ⟨L0r, C0r, F0r⟩ := B0r
  by_cases hlt : a < F
  case neg =>
    obtain rfl : a = F := by omega
    clear hlt
    go_wp2_with fail
    go_ret
    obtain ⟨h1, h2⟩ := Prs.own OWN.out HK.out
    exact ⟨A, k, cA, rfl, h2, h1, fun a ha => ⟨by have := (own_addr OWN.out ha).1; omega, (own_addr OWN.out ha).2.1⟩, (keptTrans hkW hkr).toBelow⟩
  have ha9 : (a : Int) < (F : Int) := by omega
  have hQL := tabQ_len F T n a
  rw [HK.out] at hQL
  have hQ2 : k + F ≤ F * F := by have h9 := Nat.mul_le_mul_right F (show a + 1 ≤ F from hlt); rw [Nat.succ_mul] at h9; omega
  clear hQL
  go_wp2_with fail
  go_loopw [5, 7] (fun s5 s7 wz => ∃ (d : Nat) (A' : Option Addr) (k' cA' : Nat), d ≤ F ∧ s7 = .int .i64 d ∧ s5 = .slice A' k' cA' ∧ Kept [] W wz ∧ Hid ((tabQ F T n a ++ tabP T n a d).length = k') ∧ Hid (wz.ownsRow W.heap.size 76 2 (.slice A' k' cA') k' (prcells (tabQ F T n a ++ tabP T n a d)))) (fun _ s7 _ => F - (intOf s7).toNat)
  case atStart => exact ⟨0, A, k, cA, Nat.zero_le _, rfl, rfl, hkr, Lib.hid (by rw [tabP_zero, List.append_nil]; exact HK.out), Lib.hid (by rw [tabP_zero, List.append_nil]; exact OWN.out)⟩
  case round =>
  clear C0r F0r
  rename World => wz
  obtain ⟨d, A', k', cA', hd, rfl, rfl, hkz, HK', OWZ⟩ := hrel
  have B0z := hkz.blk (by simp) B0
  have ⟨L0z, C0z, F0z⟩ := B0z
  by_cases hltd : d < F
  case neg =>
    obtain rfl : d = F := by omega
    have HSQ : Hid (tabQ d T n (a + 1) = tabQ d T n a ++ tabP T n a d) := Lib.hid (tabQ_succ d T n a)
    clear hltd
    go_wp2_with fail
    exact ⟨⟨a + 1, A', k', cA', by omega, by go_num, rfl, hkz, by rw [HSQ.out]; exact HK', by rw [HSQ.out]; exact OWZ⟩, by simp [intOf]; omega⟩
  have hd9 : (d : Int) < (F : Int) := by omega
  obtain ⟨v, hv⟩ : ∃ v, T n a d = v := ⟨_, rfl⟩
  have HV := Lib.hid hv
  have HSP : Hid (tabP T n a (d + 1) = tabP T n a d ++ (if v = true then [⟨(a : Int), (d : Int)⟩] else [])) := Lib.hid (by rw [tabP_succ, hv])
  have hk9 : k' + 1 ≤ 1048576 := by
    have h1 := HK'.out
    rw [List.length_append, HK.out] at h1
    have := tabP_len T n a d
    omega
  have TZ := Lib.hid (TW.out.kept0 hkz)
  clear hv
  cases v with
  | false =>
    have HSP2 : Hid (tabP T n a (d + 1) = tabP T n a d) := Lib.hid (by rw [HSP.out]; simp)
    go_wp2_with (go_at_call 34; refine (rtHas_is c a n d false _ TZ.out hN8 hF8 hn hlt hltd HV.out).mono ?_; rintro e w6 ⟨rfl, hb6⟩)
    have hk6 : Kept [] wz w6 := (Kept.refl _ _).call hb6
    exact ⟨⟨d + 1, A', k', cA', by omega, by go_num, rfl, hkz.call hb6, by rw [HSP2.out]; exact HK', by rw [HSP2.out]; exact Lib.hid (own_keptT (X := []) OWZ.out hk6 (by simp))⟩, by simp [intOf]; omega⟩
  | true =>
    have HSP2 : Hid (tabP T n a (d + 1) = tabP T n a d ++ [⟨(a : Int), (d : Int)⟩]) := Lib.hid (by rw [HSP.out]; simp)
    have HAP : Hid (prcells (tabQ F T n a ++ tabP T n a d) ++ [.int .i64 (a : Int), .int .i64 (d : Int)] = prcells (tabQ F T n a ++ tabP T n a (d + 1))) := Lib.hid (by
      rw [HSP2.out, ← List.append_assoc]
      exact prcells_snoc _ ⟨(a : Int), (d : Int)⟩)
    go_wp2_with (first
      | (go_at_call 34; refine (rtHas_is c a n d true _ TZ.out hN8 hF8 hn hlt hltd HV.out).mono ?_; rintro e w6 ⟨rfl, hb6⟩; have hk6 : Kept [] wz w6 := (Kept.refl _ _).call hb6; have hk06 := Lib.hid (hkz.call hb6); have OW6 := Lib.hid (own_keptT (X := []) OWZ.out hk6 (by simp)); have hs06 := hk06.out.size)
      | (at_builtin; refine wpList_append_rd _ rfl _ _ 40 rfl W.heap.size 76 i0 (.agg #[.int .i64 0, .int .i64 0]) 2 16 Tryz.underlying40 hinf0 hz0 hz1 hz2 rfl (by decide) (.slice A' k' cA') k' _ rfl (own_keptT (X := []) OW6.out ((Kept.refl _ _).alloc _) (by simp)) (some ⟨w6.heap.size, 0, none⟩) 1 1 [.int .i64 (a : Int), .int .i64 (d : Int)] rfl (new2T _ _ _ _ _ rfl) (fun h => by cases h) (by intro u hu; simp at hu; rcases hu with rfl | rfl <;> rfl) (k' + 1) rfl _ HAP.out (by unfold maxLen; omega) (by omega) (by simp; omega) ?_; intro A8 c8 w8 hown8 hk8 hat8; have hk9 := Lib.hid ((hk06.out.alloc (.cells #[.int .i64 (a : Int), .int .i64 (d : Int)] 76)).next hk8 (fun y hy => Or.inr (own_ge OW6.out (by simpa using hy)))); have HO8 := Lib.hid hown8; clear hown8 hk8 hat8))
    exact ⟨⟨d + 1, A8, k' + 1, c8, by omega, by go_num, rfl, hk9.out, by rw [HSP2.out, ← List.append_assoc]; exact Lib.hid (by rw [List.length_append, HK'.out]; rfl), HO8⟩, by simp [intOf]; omega⟩
end Go.Proofs.YtmbihjlflcjlnaaGreat
/- Summaries: plain, and in memory. No program in sight. -/
namespace Go.Df
open Go.RowKit
namespace Sp
theorem kindAt_lt {ns : List Nd} {f k : Int} (h : 0 ≤ kindAt ns f k) : kindAt ns f k < ns.length := by
  unfold kindAt at h ⊢
  cases hh : ns.findIdx? (fun n => n.f == f && n.k == k) with
  | none => rw [hh] at h; simp at h
  | some i =>
    have := (List.findIdx?_eq_some_iff_getElem.1 hh).1
    show (i : Int) < _
    omega
theorem whole_of {ns : List Nd} {m : Int} (h : nodesErr ns m = 0) {x : Nat} (hx : x < ns.length) : 0 ≤ kindAt ns (gn ns x).f 3 ∧ 0 ≤ kindAt ns (gn ns x).f 4 := by
  unfold nodesErr at h
  split at h
  · rename_i h0; exact absurd h h0
  · split at h
    · rename_i h1; exact absurd h h1
    · rename_i h1
      have h2 := fe_zero _ _ (Decidable.byContradiction h1) x (Nat.zero_le _) (by omega)
      unfold wholeErr at h2
      split at h2
      · cases h2
      · rename_i h3; omega
end Sp
namespace If
open Sp
/-- A summary: the function, what holds at its exit and throw nodes. -/
structure Su where
  f : Int
  x : List Pr
  y : List Pr
noncomputable def sumOf (p : Pb) (i : Nat) : Su := ⟨(gn p.ns i).f, pairL p (kindAt p.ns (gn p.ns i).f 3).toNat, pairL p (kindAt p.ns (gn p.ns i).f 4).toNat⟩
open Classical in
/-- The summaries of the functions whose starts are reached, of the first i nodes. -/
noncomputable def sumI (p : Pb) : Nat → List Su
  | 0 => []
  | i + 1 => sumI p i ++ (if (gn p.ns i).k = 1 ∧ PE p 0 i 0 then [sumOf p i] else [])
theorem sumI_yes {p : Pb} {i : Nat} (h : (gn p.ns i).k = 1) (h2 : PE p 0 i 0) : sumI p (i + 1) = sumI p i ++ [sumOf p i] := by
  rw [sumI, if_pos ⟨h, h2⟩]
theorem sumI_no {p : Pb} {i : Nat} (h : ¬ ((gn p.ns i).k = 1 ∧ PE p 0 i 0)) : sumI p (i + 1) = sumI p i := by
  rw [sumI, if_neg h, List.append_nil]
theorem sumI_len (p : Pb) : ∀ i, (sumI p i).length ≤ i
  | 0 => Nat.le_refl _
  | i + 1 => by
    have := sumI_len p i
    by_cases h : (gn p.ns i).k = 1 ∧ PE p 0 i 0
    · rw [sumI_yes h.1 h.2]; simp; omega
    · rw [sumI_no h]; omega
theorem sumI_pairs {p : Pb} (ho : Ok p) : ∀ i, ∀ u ∈ sumI p i, u.x.length ≤ 1048576 ∧ u.y.length ≤ 1048576
  | 0, u, h => by simp [sumI] at h
  | i + 1, u, h => by
    have hF8 : p.F.toNat ≤ 1024 := by have := ho.f2; omega
    have h2 : p.F.toNat * p.F.toNat ≤ 1024 * 1024 := Nat.mul_le_mul hF8 hF8
    by_cases h0 : (gn p.ns i).k = 1 ∧ PE p 0 i 0
    · rw [sumI_yes h0.1 h0.2] at h
      rcases List.mem_append.1 h with h1 | h1
      · exact sumI_pairs ho i u h1
      · obtain rfl : u = sumOf p i := by simpa using h1
        have h3 := pairL_len ho (F := p.F.toNat) rfl (kindAt p.ns (gn p.ns i).f 3).toNat
        have h4 := pairL_len ho (F := p.F.toNat) rfl (kindAt p.ns (gn p.ns i).f 4).toNat
        unfold sumOf
        dsimp only
        omega
    · rw [sumI_no h0] at h
      exact sumI_pairs ho i u h
/-- A summary in memory. -/
structure SuR where
  f : Int
  E : Option Addr
  ne : Nat
  ce : Nat
  T : Option Addr
  nt : Nat
  ct : Nat
def sucells (l : List SuR) : List Value := l.flatMap fun x => [.int .i64 x.f, .slice x.E x.ne x.ce, .slice x.T x.nt x.ct]
theorem sucells_snoc (l : List SuR) (x : SuR) : sucells l ++ [.int .i64 x.f, .slice x.E x.ne x.ce, .slice x.T x.nt x.ct] = sucells (l ++ [x]) := by simp [sucells]
theorem sucells_at : ∀ (l : List SuR) {i : Nat} {x : SuR} (_ : l[i]? = some x), (sucells l)[i * 3]? = some (.int .i64 x.f) ∧ (sucells l)[i * 3 + 1]? = some (.slice x.E x.ne x.ce) ∧ (sucells l)[i * 3 + 2]? = some (.slice x.T x.nt x.ct)
  | [], i, x, h => by simp at h
  | y :: l, 0, x, h => by
    have : y = x := by simpa using h
    subst this
    simp [sucells]
  | y :: l, i + 1, x, h => by
    have h1 := sucells_at l (i := i) (x := x) (by simpa using h)
    have e : sucells (y :: l) = [.int .i64 y.f, .slice y.E y.ne y.ce, .slice y.T y.nt y.ct] ++ sucells l := rfl
    rw [e]
    refine ⟨?_, ?_, ?_⟩
    · rw [List.getElem?_append_right (by simp; omega), show (i + 1) * 3 - [Value.int .i64 y.f, .slice y.E y.ne y.ce, .slice y.T y.nt y.ct].length = i * 3 by simp; omega]; exact h1.1
    · rw [List.getElem?_append_right (by simp; omega), show (i + 1) * 3 + 1 - [Value.int .i64 y.f, .slice y.E y.ne y.ce, .slice y.T y.nt y.ct].length = i * 3 + 1 by simp; omega]; exact h1.2.1
    · rw [List.getElem?_append_right (by simp; omega), show (i + 1) * 3 + 2 - [Value.int .i64 y.f, .slice y.E y.ne y.ce, .slice y.T y.nt y.ct].length = i * 3 + 2 by simp; omega]; exact h1.2.2
/-- What the summaries in memory say, their pairs in blocks of pairs beyond base. -/
def RwS (base : Nat) (ti : TypeId) (w : World) (l : List SuR) (L : List Su) : Prop :=
  l.length = L.length ∧ ∀ (i : Nat) (x : SuR) (u : Su), l[i]? = some x → L[i]? = some u → x.f = u.f ∧ Prs w x.E x.ne u.x ∧ Prs w x.T x.nt u.y ∧ (∀ a, x.E = some a → base ≤ a.block ∧ Tag w a.block ti) ∧ ∀ a, x.T = some a → base ≤ a.block ∧ Tag w a.block ti
theorem RwS.kept {base : Nat} {ti : TypeId} {l : List SuR} {L : List Su} {X : List Nat} {w w' : World} (h : RwS base ti w l L) (hk : Kept X w w') (hX : ∀ b, Tag w b ti → base ≤ b → b ∉ X) : RwS base ti w' l L :=
  ⟨h.1, fun i x u h1 h2 => by
    obtain ⟨e1, e2, e3, e4, e5⟩ := h.2 i x u h1 h2
    exact ⟨e1, prs_keptT e2 hk (fun a ha => hX _ (e4 a ha).2 (e4 a ha).1), prs_keptT e3 hk (fun a ha => hX _ (e5 a ha).2 (e5 a ha).1), fun a ha => ⟨(e4 a ha).1, (e4 a ha).2.same (hk.block _ (e4 a ha).2.lt (hX _ (e4 a ha).2 (e4 a ha).1))⟩, fun a ha => ⟨(e5 a ha).1, (e5 a ha).2.same (hk.block _ (e5 a ha).2.lt (hX _ (e5 a ha).2 (e5 a ha).1))⟩⟩⟩
theorem RwS.nil (base : Nat) (ti : TypeId) (w : World) : RwS base ti w [] [] := ⟨rfl, fun i x u h => by simp at h⟩
theorem RwS.snoc {base : Nat} {ti : TypeId} {w : World} {l : List SuR} {L : List Su} (h : RwS base ti w l L) {x : SuR} {u : Su} (e1 : x.f = u.f) (e2 : Prs w x.E x.ne u.x) (e3 : Prs w x.T x.nt u.y) (e4 : ∀ a, x.E = some a → base ≤ a.block ∧ Tag w a.block ti) (e5 : ∀ a, x.T = some a → base ≤ a.block ∧ Tag w a.block ti) : RwS base ti w (l ++ [x]) (L ++ [u]) := by
  refine ⟨by simp [h.1], fun i y v h1 h2 => ?_⟩
  by_cases hi : i < l.length
  · rw [List.getElem?_append_left hi] at h1
    rw [List.getElem?_append_left (by rw [← h.1]; exact hi)] at h2
    exact h.2 i y v h1 h2
  · rw [List.getElem?_append_right (by omega)] at h1
    rw [List.getElem?_append_right (by rw [← h.1]; omega), ← h.1] at h2
    have hi2 : i - l.length = 0 := by
      rcases Nat.eq_zero_or_pos (i - l.length) with h9 | h9
      · exact h9
      · rw [List.getElem?_eq_none (by simp; omega)] at h1; cases h1
    rw [hi2] at h1 h2
    have h1 : x = y := by simpa using h1
    have h2 : u = v := by simpa using h2
    subst h1 h2
    exact ⟨e1, e2, e3, e4, e5⟩
/-- A slice of summaries. -/
def Sums (w : World) (A : Option Addr) (n : Nat) (L : List Su) : Prop :=
  L.length = n ∧ (0 < n → ∃ b o, A = some ⟨b, o, none⟩ ∧ b < w.heap.size ∧ ∀ i u, L[i]? = some u → ∃ E ne ce T nt ct, w.cell? ⟨b, o + i * 3, none⟩ = some (.int .i64 u.f) ∧ w.cell? ⟨b, o + i * 3 + 1, none⟩ = some (.slice E ne ce) ∧ w.cell? ⟨b, o + i * 3 + 2, none⟩ = some (.slice T nt ct) ∧ Prs w E ne u.x ∧ Prs w T nt u.y)
theorem Sums.of {w : World} {base b2 : Nat} {ti te : TypeId} {A : Option Addr} {n c : Nat} {l : List SuR} {L : List Su} (h : w.ownsRow base te 3 (.slice A n c) n (sucells l)) (hl : l.length = n) (hr : RwS b2 ti w l L) : Sums w A n L := by
  refine ⟨by rw [← hr.1, hl], fun h0 => ?_⟩
  obtain ⟨g, c', hv, hb, hg, hc, -, hcell, -⟩ := own_cellsT h h0
  injection hv with e1 e2 e3
  refine ⟨g, 0, e1, hg, fun i u hu => ?_⟩
  have hi : i < l.length := by
    rcases Nat.lt_or_ge i L.length with h9 | h9
    · rw [hr.1]; exact h9
    · rw [List.getElem?_eq_none h9] at hu; cases hu
  obtain ⟨x, hx⟩ : ∃ x, l[i]? = some x := ⟨_, List.getElem?_eq_getElem hi⟩
  obtain ⟨h1, h2, h3⟩ := sucells_at l hx
  obtain ⟨f1, f2, f3, -, -⟩ := hr.2 i x u hx hu
  rw [Nat.zero_add]
  exact ⟨x.E, x.ne, x.ce, x.T, x.nt, x.ct, by rw [hcell _ (by omega), h1, f1], by rw [hcell _ (by omega), h2], by rw [hcell _ (by omega), h3], f2, f3⟩
theorem Sums.later {w w' : World} {A : Option Addr} {n : Nat} {L : List Su} (h : Sums w A n L) (hb : Below w.heap.size w w') : Sums w' A n L :=
  ⟨h.1, fun h0 => by
    obtain ⟨b, o, e, hl, hc⟩ := h.2 h0
    refine ⟨b, o, e, Nat.lt_of_lt_of_le hl hb.size, fun i u hu => ?_⟩
    obtain ⟨E, ne, ce, T, nt, ct, h1, h2, h3, h4, h5⟩ := hc i u hu
    exact ⟨E, ne, ce, T, nt, ct, (hb.cell (p := ⟨b, _, none⟩) hl).trans h1, (hb.cell (p := ⟨b, _, none⟩) hl).trans h2, (hb.cell (p := ⟨b, _, none⟩) hl).trans h3, h4.later hb, h5.later hb⟩⟩
end If
end Go.Df
