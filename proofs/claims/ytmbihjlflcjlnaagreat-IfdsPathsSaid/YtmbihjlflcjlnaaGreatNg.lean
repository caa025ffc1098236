/- The contracts of the reference's PairsAt and Paths. -/
import Derived.Test.YtmbihjlflcjlnaaGreatNb
import Derived.Test.YtmbihjlflcjlnaaGreatZg
namespace Go.Df
open Go.RowKit
namespace If
/-- Rows of pairs, in blocks of pairs beyond base. -/
def RwP (base : Nat) (ti : TypeId) (R : Nat → Option Addr × Nat × Nat) (L : Nat → List Pr) (n : Nat) (w : World) : Prop :=
  ∀ x, x < n → Prs w (R x).1 (R x).2.1 (L x) ∧ (R x).2.1 ≤ (R x).2.2 ∧ ∀ a, (R x).1 = some a → base ≤ a.block ∧ Tag w a.block ti
theorem prs_keptT {X : List Nat} {w w' : World} {A : Option Addr} {m : Nat} {l : List Pr} (h : Prs w A m l) (hk : Kept X w w') (hA : ∀ a, A = some a → a.block ∉ X) : Prs w' A m l :=
  ⟨h.1, fun hn => by
    obtain ⟨b, o, e, hl, hc⟩ := h.2 hn
    exact ⟨b, o, e, Nat.lt_of_lt_of_le hl hk.size, fun i hi => ⟨(hk.cell b _ hl (hA _ e)).trans (hc i hi).1, (hk.cell b _ hl (hA _ e)).trans (hc i hi).2⟩⟩⟩
theorem RwP.kept {base : Nat} {ti : TypeId} {R : Nat → Option Addr × Nat × Nat} {L : Nat → List Pr} {n : Nat} {X : List Nat} {w w' : World} (h : RwP base ti R L n w) (hk : Kept X w w') (hX : ∀ b, Tag w b ti → base ≤ b → b ∉ X) : RwP base ti R L n w' := fun x hx => by
  obtain ⟨h1, h2, h3⟩ := h x hx
  exact ⟨prs_keptT h1 hk (fun a ha => hX _ (h3 a ha).2 (h3 a ha).1), h2, fun a ha => ⟨(h3 a ha).1, (h3 a ha).2.same (hk.block _ (h3 a ha).2.lt (hX _ (h3 a ha).2 (h3 a ha).1))⟩⟩
def updP (f : Nat → Option Addr × Nat × Nat) (n : Nat) (x : Option Addr × Nat × Nat) : Nat → Option Addr × Nat × Nat := fun i => if i = n then x else f i
theorem RwP.snoc {base : Nat} {ti : TypeId} {R : Nat → Option Addr × Nat × Nat} {L : Nat → List Pr} {n : Nat} {w : World} (h : RwP base ti R L n w) {A : Option Addr} {m c : Nat} (hA : Prs w A m (L n)) (hm : m ≤ c) (ha : ∀ a, A = some a → base ≤ a.block ∧ Tag w a.block ti) : RwP base ti (updP R n (A, m, c)) L (n + 1) w := fun x hx => by
  unfold updP
  by_cases e : x = n
  · subst e; rw [if_pos rfl]; exact ⟨hA, hm, ha⟩
  · rw [if_neg e]; exact h x (by omega)
theorem rowsP_snoc (R : Nat → Option Addr × Nat × Nat) (n m c : Nat) (A : Option Addr) : ((List.range n).map fun x => Value.slice (R x).1 (R x).2.1 (R x).2.2) ++ [Value.slice A m c] = (List.range (n + 1)).map fun x => Value.slice (updP R n (A, m, c) x).1 (updP R n (A, m, c) x).2.1 (updP R n (A, m, c) x).2.2 := by
  rw [List.range_succ, List.map_append]
  congr 1
  · refine List.map_congr_left fun x hx => ?_
    have : x ≠ n := by have := List.mem_range.1 hx; omega
    simp [updP, this]
  · simp [updP]
end If
end Go.Df
namespace Go.Proofs.YtmbihjlflcjlnaaGreat
open Go.RowKit Go.Df Go.Df.If
attribute [local go_sem ↓] Go.wp_at_zero Go.wp_at_succ
theorem prowg_info : (Tryz.prog.info? 40).map (fun i => (i.zero, i.size, i.bytes)) = some (some (.slice none 0 0), 1, 24) := by kernel_rfl

set_option maxRecDepth 100000 in
set_option maxHeartbeats 4000000 in
theorem rpairsat_any {N F : Nat} {X : List Nat} {bs : Nat → Nat} {r : Nat} {T : Nat → Nat → Nat → Bool} (c n : Nat) (w : World) (hT : TabM N F X bs r w T) (hN8 : N ≤ 8192) (hF8 : F ≤ 1024) (hn : n < N) :
    Calls Tryz.prog 28 #[tabV N F r c, .int .i64 n] w fun e w' => ∃ A k cc, e = .returned (.slice A k cc) ∧ k ≤ cc ∧ Prs w' A k (tabQ F T n F) ∧ (∀ a, A = some a → w.heap.size ≤ a.block ∧ Tag w' a.block 76) ∧ Below w.heap.size w w' := by
  obtain ⟨i0, hinf0, hz0, hz1, hz2⟩ := info_parts pairi_info
  have HT := Lib.hid hT
  have hrl := hT.rl
  have hFF : F * F ≤ 1048576 := Nat.le_trans (Nat.mul_le_mul hF8 hF8) (by decide)
  clear hT
  go_enter Tryz.func28, Tryz.ntmps28
  go_upto_region 1 with fail
  refine wp_named (fun W => ∃ b0, w.heap.size = b0 ∧ Blk W b0 [.int .i64 (F : Nat), .slice (some ⟨r, 0, none⟩) N c] ∧ Below w.heap.size w W) ⟨_, rfl, ?_, ?_⟩ ?_
  · exact Blk.new _ _ _ _ (by first | rfl | simp)
  · go_grown
  rintro W ⟨b0, e0, B0, hB⟩
  rw [e0]
  have G0 : w.heap.size ≤ b0 := by omega
  clear e0
  have ⟨L0, C0, F0⟩ := B0
  have hkW : Kept [] w W := (Kept.refl _ _).call hB
  have TW := Lib.hid (HT.out.kept0 hkW)
  have hwW := hkW.size
  go_wp2_with fail
  go_loopw [5, 6] (fun s5 s6 wr => ∃ (a : Nat) (A : Option Addr) (k cA : Nat), a ≤ F ∧ s6 = .int .i64 a ∧ s5 = .slice A k cA ∧ Kept [] W wr ∧ Hid ((tabQ F T n a).length = k) ∧ Hid (wr.ownsRow W.heap.size 76 2 (.slice A k cA) k (prcells (tabQ F T n a)))) (fun _ s6 _ => F - (intOf s6).toNat)
  case atStart => exact ⟨0, none, 0, 0, Nat.zero_le _, rfl, rfl, Kept.refl _ _, Lib.hid rfl, Lib.hid (World.ownsRow_nil _ _ _ _)⟩
  case round =>
  clear C0 F0
  obtain ⟨a, A, k, cA, ha, rfl, rfl, hkr, HK, OWN⟩ := hrel
  have B0r := hkr.blk (by simp) B0
  have ⟨L0r, C0r, F0r⟩ := B0r
  by_cases hlt : a < F
  case neg =>
    obtain rfl : a = F := by omega
    clear hlt
    go_wp2_with fail
    go_ret
    obtain ⟨h1, h2⟩ := Prs.own OWN.out HK.out
    exact ⟨A, k, cA, rfl, h2, h1, fun a ha => ⟨by have := (own_addr OWN.out ha).1; omega, (own_addr OWN.out ha).2.1⟩, (keptTrans hkW hkr).toBelow⟩
  have ha9 : (a : Int) < (F : Int) := by omega
  have hQL := tabQ_len F T n a
  rw [HK.out] at hQL
  have hQ2 : k + F ≤ F * F := by have h9 := Nat.mul_le_mul_right F (show a + 1 ≤ F from hlt); rw [Nat.succ_mul] at h9; omega
  clear hQL
  go_wp2_with fail
  go_loopw [5, 7] (fun s5 s7 wz => ∃ (d : Nat) (A' : Option Addr) (k' cA' : Nat), d ≤ F ∧ s7 = .int .i64 d ∧ s5 = .slice A' k' cA' ∧ Kept [] W wz ∧ Hid ((tabQ F T n a ++ tabP T n a d).length = k') ∧ Hid (wz.ownsRow W.heap.size 76 2 (.slice A' k' cA') k' (prcells (tabQ F T n a ++ tabP T n a d)))) (fun _ s7 _ => F - (intOf s7).toNat)
  case atStart => exact ⟨0, A, k, cA, Nat.zero_le _, rfl, rfl, hkr, Lib.hid (by rw [tabP_zero, List.append_nil]; exact HK.out), Lib.hid (by rw [tabP_zero, List.append_nil]; exact OWN.out)⟩
  case round =>
  clear C0r F0r
  rename World => wz
  obtain ⟨d, A', k', cA', hd, rfl, rfl, hkz, HK', OWZ⟩ := hrel
  have B0z := hkz.blk (by simp) B0
  have ⟨L0z, C0z, F0z⟩ := B0z
  by_cases hltd : d < F
  case neg =>
    obtain rfl : d = F := by omega
    have HSQ : Hid (tabQ d T n (a + 1) = tabQ d T n a ++ tabP T n a d) := Lib.hid (tabQ_succ d T n a)
    clear hltd
    go_wp2_with fail
    exact ⟨⟨a + 1, A', k', cA', by omega, by go_num, rfl, hkz, by rw [HSQ.out]; exact HK', by rw [HSQ.out]; exact OWZ⟩, by simp [intOf]; omega⟩
  have hd9 : (d : Int) < (F : Int) := by omega
  obtain ⟨v, hv⟩ : ∃ v, T n a d = v := ⟨_, rfl⟩
  have HV := Lib.hid hv
  have HSP : Hid (tabP T n a (d + 1) = tabP T n a d ++ (if v = true then [⟨(a : Int), (d : Int)⟩] else [])) := Lib.hid (by rw [tabP_succ, hv])
  have hk9 : k' + 1 ≤ 1048576 := by
    have h1 := HK'.out
    rw [List.length_append, HK.out] at h1
    have := tabP_len T n a d
    omega
  have TZ := Lib.hid (TW.out.kept0 hkz)
  clear hv
  cases v with
  | false =>
    have HSP2 : Hid (tabP T n a (d + 1) = tabP T n a d) := Lib.hid (by rw [HSP.out]; simp)
    go_wp2_with (go_at_call 34; refine (rtHas_is c a n d false _ TZ.out hN8 hF8 hn hlt hltd HV.out).mono ?_; rintro e w6 ⟨rfl, hb6⟩)
    have hk6 : Kept [] wz w6 := (Kept.refl _ _).call hb6
    exact ⟨⟨d + 1, A', k', cA', by omega, by go_num, rfl, hkz.call hb6, by rw [HSP2.out]; exact HK', by rw [HSP2.out]; exact Lib.hid (own_keptT (X := []) OWZ.out hk6 (by simp))⟩, by simp [intOf]; omega⟩
  | true =>
    have HSP2 : Hid (tabP T n a (d + 1) = tabP T n a d ++ [⟨(a : Int), (d : Int)⟩]) := Lib.hid (by rw [HSP.out]; simp)
    have HAP : Hid (prcells (tabQ F T n a ++ tabP T n a d) ++ [.int .i64 (a : Int), .int .i64 (d : Int)] = prcells (tabQ F T n a ++ tabP T n a (d + 1))) := Lib.hid (by
      rw [HSP2.out, ← List.append_assoc]
      exact prcells_snoc _ ⟨(a : Int), (d : Int)⟩)
    go_wp2_with (first
      | (go_at_call 34; refine (rtHas_is c a n d true _ TZ.out hN8 hF8 hn hlt hltd HV.out).mono ?_; rintro e w6 ⟨rfl, hb6⟩; have hk6 : Kept [] wz w6 := (Kept.refl _ _).call hb6; have hk06 := Lib.hid (hkz.call hb6); have OW6 := Lib.hid (own_keptT (X := []) OWZ.out hk6 (by simp)); have hs06 := hk06.out.size)
      | (at_builtin; refine wpList_append_rd _ rfl _ _ 40 rfl W.heap.size 76 i0 (.agg #[.int .i64 0, .int .i64 0]) 2 16 Tryz.underlying40 hinf0 hz0 hz1 hz2 rfl (by decide) (.slice A' k' cA') k' _ rfl (own_keptT (X := []) OW6.out ((Kept.refl _ _).alloc _) (by simp)) (some ⟨w6.heap.size, 0, none⟩) 1 1 [.int .i64 (a : Int), .int .i64 (d : Int)] rfl (new2T _ _ _ _ _ rfl) (fun h => by cases h) (by intro u hu; simp at hu; rcases hu with rfl | rfl <;> rfl) (k' + 1) rfl _ HAP.out (by unfold maxLen; omega) (by omega) (by simp; omega) ?_; intro A8 c8 w8 hown8 hk8 hat8; have hk9 := Lib.hid ((hk06.out.alloc (.cells #[.int .i64 (a : Int), .int .i64 (d : Int)] 76)).next hk8 (fun y hy => Or.inr (own_ge OW6.out (by simpa using hy)))); have HO8 := Lib.hid hown8; clear hown8 hk8 hat8))
    exact ⟨⟨d + 1, A8, k' + 1, c8, by omega, by go_num, rfl, hk9.out, by rw [HSP2.out, ← List.append_assoc]; exact Lib.hid (by rw [List.length_append, HK'.out]; rfl), HO8⟩, by simp [intOf]; omega⟩
end Go.Proofs.YtmbihjlflcjlnaaGreat
