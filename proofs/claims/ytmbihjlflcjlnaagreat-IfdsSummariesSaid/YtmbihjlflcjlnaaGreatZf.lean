/- A pack of texts: Jc Jd. -/
import Derived.Test.YtmbihjlflcjlnaaGreatJb
import Derived.Test.YtmbihjlflcjlnaaGreatMc
import Derived.Test.YtmbihjlflcjlnaaGreatMb
import Derived.Test.YtmbihjlflcjlnaaGreatSj
import Derived.Maps.OwnOps
import Derived.WalkSpells
import Derived.Test.YtmbihjlflcjlnaaGreatZi
/- The contracts of the tables' get and put. -/
namespace Go.Df
open Go.RowKit Go.Maps
/-- What a store into a table leaves. -/
def PutT (P : Program) (k tM : TypeId) (z : Value) (w : World) (r N : Nat) (m : Nat → Option Nat) (c : Nat → Nat) (v : Nat → Value → Value) (n : Nat) (key x : Value) (e : Ending) (w' : World) : Prop :=
  ∃ m', e = .returned (.tuple #[]) ∧ Tb P k tM z w' r N m' (fun i => if i = n then c n + 1 else c i) (updV v n key x) ∧ Kept (r :: (m n).toList) w w' ∧ (∀ i, i ≠ n → m' i = m i) ∧ (m' n = m n ∨ (m n = none ∧ ∃ b, m' n = some b ∧ w.heap.size ≤ b))
theorem updV_at (v : Nat → Value → Value) (n : Nat) (key x : Value) : updV v n key x n key = x := by simp [updV]
theorem updV_key (v : Nat → Value → Value) (n : Nat) (key x y : Value) (h : y ≠ key) : updV v n key x n y = v n y := by simp [updV, h]
end Go.Df
namespace Go.Proofs.YtmbihjlflcjlnaaGreat
open Go.RowKit Go.Df Go.Maps
attribute [local go_sem ↓] Go.wp_at_zero Go.wp_at_succ
theorem Tryz.zeroBits (w : World) : (zeroValue 104).run Tryz.prog w = .ok (.slice none 0 0) w := by kernel_rfl
theorem Tryz.mapIB : Tryz.prog.underlying 121 = some (.map 3 104) := by kernel_rfl
/-- A table of sets. -/
abbrev TbB (w : World) (r N : Nat) (m : Nat → Option Nat) (c : Nat → Nat) (v : Nat → Value → Value) : Prop := Tb Tryz.prog 3 121 (.slice none 0 0) w r N m c v

set_option maxRecDepth 100000 in
set_option maxHeartbeats 4000000 in
theorem get_any (r N c0 n a : Nat) (m : Nat → Option Nat) (c : Nat → Nat) (v : Nat → Value → Value) (w : World) (ht : TbB w r N m c v) (hn : n < N) (ha : a ≤ 1000000) :
    Calls Tryz.prog 62 #[.agg #[.slice (some ⟨r, 0, none⟩) N c0], .int .i64 n, .int .i64 a] w fun e w' => e = .returned (v n (.int .i64 a)) ∧ Below w.heap.size w w' := by
  have HT := Lib.hid ht
  have hrl := ht.rtag.lt
  clear ht
  have hn1 : (n : Int) < (N : Int) := by omega
  have hkey := Tryz.keyInt (a : Int) (WalkArith.wf_i64 (by omega))
  have HK := Lib.hid hkey
  clear hkey
  go_enter Tryz.func62, Tryz.ntmps62
  go_upto_region 1 with fail
  refine wp_named (fun W => ∃ b0, w.heap.size = b0 ∧ Blk W b0 [.slice (some ⟨r, 0, none⟩) N c0] ∧ Below w.heap.size w W) ⟨_, rfl, ?_, ?_⟩ ?_
  · exact Blk.new _ _ _ _ (by first | rfl | simp)
  · go_grown
  rintro W ⟨b0, e0, B0, hB⟩
  rw [e0]
  have G0 : w.heap.size ≤ b0 := by omega
  clear e0
  have ⟨L0, C0, F0⟩ := B0
  have hkW : Kept [] w W := (Kept.refl _ _).call hB
  have HTW := Lib.hid (HT.out.kept hkW (by simp) (by simp))
  have hcell := HTW.out.cell hn
  have hrW : r < W.heap.size := HTW.out.rtag.lt
  cases hm : m n with
  | none =>
    rw [hm] at hcell
    have hrun : (Instr.lookup 121 (.map none) (.int .i64 a) false).run Tryz.prog W = .ok (.slice none 0 0) W := by
      have := Maps.look_nil (w := W) false Tryz.lawInt Tryz.mapIB (Tryz.zeroBits W) HK.out
      simpa using this
    have HZ := Lib.hid (HTW.out.no n hn hm (.int .i64 a))
    clear hm
    go_wp2
    go_ret
    rw [HZ.out]
    exact ⟨rfl, hB⟩
  | some b =>
    rw [hm] at hcell
    have hrun : (Instr.lookup 121 (.map (some b)) (.int .i64 a) false).run Tryz.prog W = .ok (v n (.int .i64 a)) W :=
      (HTW.out.is n b hn hm).look Tryz.lawInt Tryz.mapIB (Tryz.zeroBits W) HK.out
    clear hm
    go_wp2
    go_ret
    exact ⟨rfl, hB⟩

set_option maxRecDepth 100000 in
set_option maxHeartbeats 4000000 in
theorem put_any (r N c0 n a : Nat) (m : Nat → Option Nat) (c : Nat → Nat) (v : Nat → Value → Value) (A : Option Addr) (k l : Nat) (w : World) (ht : TbB w r N m c v) (hn : n < N) (ha : a ≤ 1000000) (hc : c n < maxLen) :
    Calls Tryz.prog 103 #[.agg #[.slice (some ⟨r, 0, none⟩) N c0], .int .i64 n, .int .i64 a, .slice A k l] w (PutT Tryz.prog 3 121 (.slice none 0 0) w r N m c v n (.int .i64 a) (.slice A k l)) := by
  have HT := Lib.hid ht
  have hrl := ht.rtag.lt
  clear ht
  have hn1 : (n : Int) < (N : Int) := by omega
  have hkey := Tryz.keyInt (a : Int) (WalkArith.wf_i64 (by omega))
  have HK := Lib.hid hkey
  clear hkey
  have hmm := @run_makeMap Tryz.prog
  have hqm := fun w r => run_eql_map_nil (P := Tryz.prog) w 121 3 104 r Tryz.mapIB
  go_enter Tryz.func103, Tryz.ntmps103
  go_upto_region 1 with fail
  refine wp_named (fun W => ∃ b0, w.heap.size = b0 ∧ Blk W b0 [.slice (some ⟨r, 0, none⟩) N c0] ∧ Below w.heap.size w W) ⟨_, rfl, ?_, ?_⟩ ?_
  · exact Blk.new _ _ _ _ (by first | rfl | simp)
  · go_grown
  rintro W ⟨b0, e0, B0, hB⟩
  rw [e0]
  have G0 : w.heap.size ≤ b0 := by omega
  clear e0
  have ⟨L0, C0, F0⟩ := B0
  have hkW : Kept [] w W := (Kept.refl _ _).call hB
  have HTW := Lib.hid (HT.out.kept hkW (by simp) (by simp))
  have hcell := HTW.out.cell hn
  have hfr := HTW.out.rtag.frozen n
  have hrW : r < W.heap.size := HTW.out.rtag.lt
  have hb0r : b0 ≠ r := by omega
  cases hm : m n with
  | none =>
    rw [hm] at hcell
    go_upto_region 3 with fail
    refine wp_named (fun V => ∃ b, W.heap.size = b ∧ TbB V r N (fun i => if i = n then some b else m i) c v ∧ Kept [r] W V) ⟨_, rfl, ?_, ?_⟩ ?_
    · rw [← World.setCell_alloc_past _ _ _ _ hrW]
      exact HTW.out.fresh hn hm rfl
    · exact ((Kept.refl [r] W).set r n _ (.inl (by simp))).alloc _
    rintro V ⟨b, eb, TV, hkV⟩
    have ⟨L0', C0', F0'⟩ := hkV.blk (by simpa using hb0r) B0
    have hcV := TV.cell hn
    rw [if_pos rfl] at hcV
    have hrV : r < V.heap.size := TV.rtag.lt
    have MB := TV.is n b hn (if_pos rfl)
    have HTV := Lib.hid TV
    have HMB := Lib.hid MB
    have HM := Lib.hid hm
    clear C0 F0 hcell hfr hm TV MB
    go_wp2_with (at_mapUpdate; refine wpList_store_mapT _ rfl _ _ _ 121 rfl 3 104 Tryz.lawInt Tryz.mapIB (.slice none 0 0) b (c n) (v n) rfl HMB.out hc (.int .i64 a) (.slice A k l) _ rfl rfl HK.out (updV v n (.int .i64 a) (.slice A k l) n) (updV_at _ _ _ _) (fun x hx => updV_key _ _ _ _ _ hx) ?_; intro w9 hmt hk9)
    go_end0
    have hT := HTV.out.stored hn (if_pos rfl) hk9 hmt
    refine ⟨_, rfl, hT, ?_, fun i hi => if_neg hi, .inr ⟨HM.out, b, if_pos rfl, ?_⟩⟩
    · rw [HM.out]
      have h1 : Kept [r] w V := Kept.next (keptWide hkW (by simp)) hkV (by simp)
      exact h1.next hk9 (by intro y hy; right; simp at hy; subst hy; have := hkW.size; omega)
    · have := hkW.size; omega
  | some b =>
    rw [hm] at hcell
    have HMB := Lib.hid (HTW.out.is n b hn hm)
    have HM := Lib.hid hm
    clear hm
    go_wp2_with (at_mapUpdate; refine wpList_store_mapT _ rfl _ _ _ 121 rfl 3 104 Tryz.lawInt Tryz.mapIB (.slice none 0 0) b (c n) (v n) rfl HMB.out hc (.int .i64 a) (.slice A k l) _ rfl rfl HK.out (updV v n (.int .i64 a) (.slice A k l) n) (updV_at _ _ _ _) (fun x hx => updV_key _ _ _ _ _ hx) ?_; intro w9 hmt hk9)
    go_end0
    have hT := HTW.out.stored hn HM.out hk9 hmt
    refine ⟨_, rfl, hT, ?_, fun i hi => rfl, .inl rfl⟩
    rw [HM.out]
    exact Kept.next (X := r :: [b]) (keptWide hkW (by simp)) hk9 (by simp)
end Go.Proofs.YtmbihjlflcjlnaaGreat
/- Flow functions in memory; the contract of the solver's from. -/
namespace Go.Df
open Go.RowKit
namespace If
/-- A slice of pairs; of flow functions; of seeds. -/
def Prs (w : World) (A : Option Addr) (n : Nat) (l : List Pr) : Prop :=
  l.length = n ∧ (0 < n → ∃ b o, A = some ⟨b, o, none⟩ ∧ b < w.heap.size ∧ ∀ i, i < n → w.cell? ⟨b, o + i * 2, none⟩ = some (.int .i64 (gp l i).i) ∧ w.cell? ⟨b, o + i * 2 + 1, none⟩ = some (.int .i64 (gp l i).o))
theorem Prs.later {w w' : World} {A : Option Addr} {n : Nat} {l : List Pr} (h : Prs w A n l) (hb : Below w.heap.size w w') : Prs w' A n l :=
  ⟨h.1, fun hn => by
    obtain ⟨b, o, e, hl, hc⟩ := h.2 hn
    exact ⟨b, o, e, Nat.lt_of_lt_of_le hl hb.size, fun i hi => ⟨(hb.cell (p := ⟨b, _, none⟩) hl).trans (hc i hi).1, (hb.cell (p := ⟨b, _, none⟩) hl).trans (hc i hi).2⟩⟩⟩
def Sds (w : World) (A : Option Addr) (n : Nat) (l : List Sd) : Prop :=
  l.length = n ∧ (0 < n → ∃ b o, A = some ⟨b, o, none⟩ ∧ b < w.heap.size ∧ ∀ i, i < n → w.cell? ⟨b, o + i * 2, none⟩ = some (.int .i64 (gd l i).n) ∧ w.cell? ⟨b, o + i * 2 + 1, none⟩ = some (.int .i64 (gd l i).f))
theorem Sds.later {w w' : World} {A : Option Addr} {n : Nat} {l : List Sd} (h : Sds w A n l) (hb : Below w.heap.size w w') : Sds w' A n l :=
  ⟨h.1, fun hn => by
    obtain ⟨b, o, e, hl, hc⟩ := h.2 hn
    exact ⟨b, o, e, Nat.lt_of_lt_of_le hl hb.size, fun i hi => ⟨(hb.cell (p := ⟨b, _, none⟩) hl).trans (hc i hi).1, (hb.cell (p := ⟨b, _, none⟩) hl).trans (hc i hi).2⟩⟩⟩
def Flw (w : World) (A : Option Addr) (n : Nat) (ls : List (List Pr)) : Prop :=
  ls.length = n ∧ (0 < n → ∃ b o, A = some ⟨b, o, none⟩ ∧ b < w.heap.size ∧ ∀ i, i < n → ∃ Ai ni ci, w.cell? ⟨b, o + i, none⟩ = some (.slice Ai ni ci) ∧ ni ≤ ci ∧ Prs w Ai ni (gf ls i))
theorem Flw.later {w w' : World} {A : Option Addr} {n : Nat} {ls : List (List Pr)} (h : Flw w A n ls) (hb : Below w.heap.size w w') : Flw w' A n ls :=
  ⟨h.1, fun hn => by
    obtain ⟨b, o, e, hl, hc⟩ := h.2 hn
    refine ⟨b, o, e, Nat.lt_of_lt_of_le hl hb.size, fun i hi => ?_⟩
    obtain ⟨Ai, ni, ci, h1, h2, h3⟩ := hc i hi
    exact ⟨Ai, ni, ci, (hb.cell (p := ⟨b, _, none⟩) hl).trans h1, h2, h3.later hb⟩⟩
theorem filter_all {l : List Pr} {d : Int} (h : ∀ q ∈ l, q.i = d) : l.filter (fun q => q.i == d) = l := List.filter_eq_self.2 fun q hq => by simpa using h q hq
theorem filter_no {l : List Pr} {d : Int} (h : ∀ q ∈ l, q.i ≠ d) : l.filter (fun q => q.i == d) = [] := List.filter_eq_nil_iff.2 fun q hq => by simpa using h q hq
/-- The pairs that begin with d lie together. -/
theorem froms_mid {l : List Pr} {a m d : Nat} (h0 : a + m ≤ l.length) (h1 : ∀ j, j < a → (gp l j).i ≠ d) (h2 : ∀ j, a ≤ j → j < a + m → (gp l j).i = d) (h3 : ∀ j, a + m ≤ j → j < l.length → (gp l j).i ≠ d) : froms l d = (l.drop a).take m := by
  have e : l = l.take a ++ ((l.drop a).take m ++ (l.drop a).drop m) := by rw [List.take_append_drop, List.take_append_drop]
  unfold froms
  conv => lhs; rw [e]
  rw [List.filter_append, List.filter_append]
  rw [filter_no (l := l.take a), filter_all (l := (l.drop a).take m), filter_no (l := (l.drop a).drop m)]
  · simp
  · intro q hq
    rw [List.drop_drop] at hq
    obtain ⟨j, hj, rfl⟩ := List.getElem_of_mem hq
    rw [List.length_drop] at hj
    rw [List.getElem_drop, ← gp_lt (by omega)]
    exact h3 _ (by omega) (by omega)
  · intro q hq
    obtain ⟨j, hj, rfl⟩ := List.getElem_of_mem hq
    rw [List.length_take, List.length_drop] at hj
    rw [List.getElem_take, List.getElem_drop, ← gp_lt (by omega)]
    exact h2 _ (by omega) (by omega)
  · intro q hq
    obtain ⟨j, hj, rfl⟩ := List.getElem_of_mem hq
    rw [List.length_take] at hj
    rw [List.getElem_take, ← gp_lt (by omega)]
    exact h1 _ (by omega)
theorem Prs.mid {w : World} {b o n a m : Nat} {l : List Pr} (h : Prs w (some ⟨b, o, none⟩) n l) (h0 : a + m ≤ n) (hl : 0 < n) : Prs w (some ⟨b, o + a * 2, none⟩) m ((l.drop a).take m) := by
  obtain ⟨b', o', e, hlt, hc⟩ := h.2 hl
  injection e with e; injection e with e1 e2; subst e1 e2
  have hn := h.1
  refine ⟨by rw [List.length_take, List.length_drop]; omega, fun _ => ⟨b, o + a * 2, rfl, hlt, fun i hi => ?_⟩⟩
  have e : gp ((l.drop a).take m) i = gp l (a + i) := by
    rw [gp_lt (by rw [List.length_take, List.length_drop]; omega), gp_lt (by omega), List.getElem_take, List.getElem_drop]
  rw [e, show o + a * 2 + i * 2 = o + (a + i) * 2 by omega]
  exact hc (a + i) (by omega)
/-- A part of a flow function comes back. -/
def GetPrs (w0 : World) (w : World) (l : List Pr) (e : Ending) (w' : World) : Prop := ∃ A n c, e = .returned (.slice A n c) ∧ Prs w0 A n l ∧ Below w.heap.size w w'
end If
end Go.Df
namespace Go.Proofs.YtmbihjlflcjlnaaGreat
open Go.RowKit Go.Df Go.Df.If
attribute [local go_sem ↓] Go.wp_at_zero Go.wp_at_succ

set_option maxRecDepth 100000 in
set_option maxHeartbeats 1000000 in
theorem fat1_any (n c b o b0 b1 j : Nat) (nd sn : Int) (w : World) (B0 : Blk w b0 [.slice (some ⟨b, o, none⟩) n c]) (B1 : Blk w b1 [.int .i64 nd])
    (hj : j < n) (h1 : w.cell? ⟨b, o + j * 2, none⟩ = some (.int .i64 sn)) :
    Calls Tryz.prog 165 #[.int .i64 j, .pointer (some ⟨b0, 0, none⟩), .pointer (some ⟨b1, 0, none⟩)] w fun e w' => e = .returned (.bool (decide (nd ≤ sn))) ∧ Below w.heap.size w w' := by
  have ⟨L0, C0, F0⟩ := B0
  have ⟨L1, C1, F1⟩ := B1
  have hj1 : (j : Int) < (n : Int) := by omega
  go_enter Tryz.func165, Tryz.ntmps165
  go_upto_region 1 with fail
  go_quiet (fail)
  go_wp2_with fail
  go_ret
  exact ⟨rfl, ((Kept.refl [] w).drewN _).toBelow⟩

set_option maxRecDepth 100000 in
set_option maxHeartbeats 4000000 in
theorem fsearch_any (b0 b1 n : Nat) (p : Nat → Bool) (w : World) (hsz : n < 4611686018427387904)
    (hf : ∀ (wr : World) (i : Nat), Kept [] w wr → i < n → Calls Tryz.prog 165 #[.int .i64 i, .pointer (some ⟨b0, 0, none⟩), .pointer (some ⟨b1, 0, none⟩)] wr fun e w' => e = .returned (.bool (p i)) ∧ Below wr.heap.size wr w')
    (hmono : ∀ a b, a ≤ b → b < n → p a = true → p b = true) :
    Calls Tryz.prog 138 #[.int .i64 n, .func (.func 165) #[] #[.pointer (some ⟨b0, 0, none⟩), .pointer (some ⟨b1, 0, none⟩)]] w fun e w' =>
      ∃ r : Nat, e = .returned (.int .i64 r) ∧ r ≤ n ∧ (∀ t, t < r → p t = false) ∧ (∀ t, r ≤ t → t < n → p t = true) ∧ Below w.heap.size w w' := by
  have HF := Lib.hid hf
  have HM := Lib.hid hmono
  clear hf hmono
  go_enter Tryz.func138, Tryz.ntmps138
  go_wp2_with fail
  go_loopw [5, 6] (fun s5 s6 wr => ∃ (lo hi : Nat), s5 = .int .i64 lo ∧ s6 = .int .i64 hi ∧ lo ≤ hi ∧ hi ≤ n ∧ Kept [] w wr ∧ Hid ((∀ t, t < lo → p t = false) ∧ (∀ t, hi ≤ t → t < n → p t = true))) (fun a b _ => (intOf b).toNat - (intOf a).toNat)
  case atStart => exact ⟨0, n, rfl, rfl, Nat.zero_le _, Nat.le_refl _, Kept.refl _ _, Lib.hid ⟨fun t ht => absurd ht (Nat.not_lt_zero _), fun t h1 h2 => by omega⟩⟩
  case round =>
    obtain ⟨lo, hi, rfl, rfl, hlh, hin, hkr, I⟩ := hrel
    by_cases hlt : lo < hi
    · have hc := HF.out wr ((lo + hi) / 2) hkr (by omega)
      rw [show (((lo + hi) / 2 : Nat) : Int) = ((lo : Int) + (hi : Int)) / 2 by omega] at hc
      obtain ⟨q, hq⟩ : ∃ q, p ((lo + hi) / 2) = q := ⟨_, rfl⟩
      rw [hq] at hc
      have HQ := Lib.hid hq
      clear hq
      cases q
      · go_wp2_with (go_at_call 165; refine hc.mono ?_; rintro e w5 ⟨rfl, hb5⟩)
        refine ⟨⟨(lo + hi) / 2 + 1, hi, by rw [show ((lo : Int) + (hi : Int)) / 2 + 1 = (((lo + hi) / 2 + 1 : Nat) : Int) by omega], rfl, by omega, hin, hkr.call hb5, Lib.hid ⟨fun t ht => ?_, I.out.2⟩⟩, by simp [intOf]; omega⟩
        cases h : p t with
        | false => rfl
        | true => have := HM.out t ((lo + hi) / 2) (by omega) (by omega) h; rw [HQ.out] at this; cases this
      · go_wp2_with (go_at_call 165; refine hc.mono ?_; rintro e w5 ⟨rfl, hb5⟩)
        exact ⟨⟨lo, (lo + hi) / 2, rfl, by rw [show ((lo : Int) + (hi : Int)) / 2 = (((lo + hi) / 2 : Nat) : Int) by omega], by omega, by omega, hkr.call hb5, Lib.hid ⟨I.out.1, fun t ht htn => HM.out ((lo + hi) / 2) t ht htn HQ.out⟩⟩, by simp [intOf]; omega⟩
    · obtain rfl : hi = lo := by omega
      go_wp2_with fail
      go_ret
      exact ⟨hi, rfl, hin, I.out.1, I.out.2, hkr.toBelow⟩

set_option maxRecDepth 100000 in
set_option maxHeartbeats 4000000 in
theorem from_any (A : Option Addr) (n c d : Nat) (l : List Pr) (w0 w : World) (hp : Prs w0 A n l) (hbw : Below w0.heap.size w0 w) (hn0 : 0 < n) (hn : n ≤ 8192) (hc : n ≤ c) (hsrt : ∀ i j, i ≤ j → j < l.length → (gp l i).i ≤ (gp l j).i) :
    Calls Tryz.prog 147 #[.slice A n c, .int .i64 d] w (GetPrs w0 w (froms l d)) := by
  obtain ⟨b, o, rfl, hl0, hc0⟩ := hp.2 hn0
  have HP := Lib.hid hp
  have HN := Lib.hid hp.1
  have HR := Lib.hid hsrt
  have HC : Hid (∀ i, i < n → w.cell? ⟨b, o + i * 2, none⟩ = some (.int .i64 (gp l i).i)) := fun i hi => (hbw.cell (p := ⟨b, _, none⟩) hl0).trans (hc0 i hi).1
  have hl : b < w.heap.size := Nat.lt_of_lt_of_le hl0 hbw.size
  clear hp hsrt hc0 hbw hl0
  go_enter Tryz.func147, Tryz.ntmps147
  go_upto_region 1 with fail
  refine wp_named (fun W => ∃ b0 b1, w.heap.size = b0 ∧ w.heap.size + 1 = b1 ∧ Blk W b0 [.slice (some ⟨b, o, none⟩) n c] ∧ Blk W b1 [.int .i64 d] ∧ Below w.heap.size w W) ⟨_, _, rfl, rfl, ?_, ?_, ?_⟩ ?_
  · exact (Blk.new _ _ _ _ (by first | rfl | simp)).alloc _
  · exact Blk.new _ _ _ _ (by first | rfl | simp)
  · go_grown
  rintro W ⟨b0, b1, e0, e1, B0, B1, hB⟩
  rw [e1, e0]
  have G0 : w.heap.size ≤ b0 := by omega
  have n01 : b0 ≠ b1 := by omega
  have G1 : w.heap.size ≤ b1 := by omega
  have n10 : b1 ≠ b0 := by omega
  clear e0 e1
  have ⟨L0, C0, F0⟩ := B0
  have ⟨L1, C1, F1⟩ := B1
  have hkW : Kept [] w W := (Kept.refl _ _).call hB
  have HFF : Hid (∀ (wr : World) (i : Nat), Kept [] W wr → i < n → Calls Tryz.prog 165 #[.int .i64 i, .pointer (some ⟨b0, 0, none⟩), .pointer (some ⟨b1, 0, none⟩)] wr fun e w' => e = .returned (.bool ((fun i => decide ((d : Int) ≤ (gp l i).i)) i)) ∧ Below wr.heap.size wr w') := by
    intro wr i hk hi
    exact fat1_any n c b o b0 b1 i d _ wr (hk.blk (by simp) B0) (hk.blk (by simp) B1) hi (((keptTrans hkW hk).cell b _ hl (by simp)).trans (HC.out i hi))
  have HMM : Hid (∀ a b, a ≤ b → b < n → (fun i => decide ((d : Int) ≤ (gp l i).i)) a = true → (fun i => decide ((d : Int) ≤ (gp l i).i)) b = true) := fun a b h1 h2 h3 => by
    simp only [decide_eq_true_eq] at *
    have := HR.out a b h1 (by rw [HN.out]; exact h2)
    omega
  go_upto_region 2 with (go_at_call 138; refine (fsearch_any b0 b1 n _ _ (by omega) HFF.out HMM.out).mono ?_; rintro e w1 ⟨r, rfl, hr, hr1, hr2, hb1⟩)
  have hk1 : Kept [] W w1 := (Kept.refl _ _).call hb1
  have HR1 : Hid (∀ j, j < r → (gp l j).i ≠ d) := fun j hj => by have := hr1 j hj; simp at this; omega
  have HR2 : Hid (∀ j, r ≤ j → j < n → d ≤ (gp l j).i) := fun j h1 h2 => by have := hr2 j h1 h2; simpa using this
  clear hr1 hr2 HFF HMM C0 F0 C1 F1
  go_wp2_with fail
  go_loopw [6] (fun i wr => ∃ j : Nat, r ≤ j ∧ j ≤ n ∧ i = .int .i64 j ∧ Kept [] W wr ∧ Hid (∀ x, r ≤ x → x < j → (gp l x).i = d)) (fun i _ => n - (intOf i).toNat)
  case atStart => exact ⟨r, Nat.le_refl _, hr, rfl, hk1, Lib.hid (fun x h1 h2 => absurd h1 (by omega))⟩
  case round =>
    obtain ⟨j, hrj, hj, rfl, hkr, hall⟩ := hrel
    have ⟨L2, C2, F2⟩ := hkr.blk (by simp) B0
    have ⟨L3, C3, F3⟩ := hkr.blk (by simp) B1
    have hkwr : Kept [] w wr := keptTrans hkW hkr
    by_cases hlt : j < n
    · obtain ⟨sn, hsn⟩ : ∃ sn, (gp l j).i = sn := ⟨_, rfl⟩
      have r1 : wr.cell? ⟨b, o + j * 2, none⟩ = some (.int .i64 sn) := by rw [← hsn]; exact (hkwr.cell b _ hl (by simp)).trans (HC.out j hlt)
      have hlr : b < wr.heap.size := Nat.lt_of_lt_of_le hl hkwr.size
      have HSN := Lib.hid hsn
      clear hsn
      have hj1 : (j : Int) < (n : Int) := by omega
      by_cases hnd : sn = d
      · have e1 : (sn == (d : Int)) = true := by simpa using hnd
        have HA : Hid (∀ x, r ≤ x → x < j + 1 → (gp l x).i = d) := fun x h1 h2 => by
          rcases Nat.lt_or_ge x j with h9 | h9
          · exact hall.out x h1 h9
          · obtain rfl : x = j := by omega
            rw [HSN.out]; exact hnd
        clear hnd
        go_upto_region 3 with fail
        go_quiet (fail)
        go_wp2_with fail
        exact ⟨⟨j + 1, by omega, by omega, by go_num, hkr.drewN _, HA⟩, by simp [intOf]; omega⟩
      · have e1 : (sn == (d : Int)) = false := by simpa using hnd
        have HA : Hid (∀ x, j ≤ x → x < n → (gp l x).i ≠ d) := fun x h1 h2 => by
          have h3 := HR.out j x h1 (by rw [HN.out]; exact h2)
          have h4 := HR2.out j hrj hlt
          rw [HSN.out] at h3 h4
          omega
        clear hnd
        have hjc : j ≤ c := by omega
        have hrc : ¬ c = r := by omega
        go_upto_region 3 with fail
        go_quiet (fail)
        go_wp2_with fail
        go_ret
        have hf := froms_mid (l := l) (a := r) (m := j - r) (d := d) (by rw [HN.out]; omega) HR1.out (fun x h1 h2 => hall.out x h1 (by omega)) (fun x h1 h2 => HA.out x (by omega) (by rw [HN.out] at h2; exact h2))
        refine ⟨_, j - r, _, rfl, ?_, (hkwr.drewN _).toBelow⟩
        rw [hf]
        simpa [add_lit] using HP.out.mid (a := r) (m := j - r) (by omega) hn0
    · obtain rfl : j = n := by omega
      have hjc : j ≤ c := by omega
      have hf := froms_mid (l := l) (a := r) (m := j - r) (d := d) (by rw [HN.out]; omega) HR1.out (fun x h1 h2 => hall.out x h1 (by omega)) (fun x h1 h2 => absurd h2 (by rw [HN.out]; omega))
      have HFM := Lib.hid hf
      clear hf
      by_cases hrc : c = r
      · obtain rfl : j = r := by omega
        subst hrc
        go_upto_region 3 with fail
        go_quiet (fail)
        go_wp2_with fail
        go_ret
        refine ⟨some ⟨b, o, none⟩, 0, 0, by simp, ?_, (hkwr.drewN _).toBelow⟩
        rw [HFM.out]
        exact ⟨by simp, fun h => absurd h (by omega)⟩
      go_upto_region 3 with fail
      go_quiet (fail)
      go_wp2_with fail
      go_ret
      refine ⟨_, j - r, _, rfl, ?_, (hkwr.drewN _).toBelow⟩
      rw [HFM.out]
      simpa [add_lit] using HP.out.mid (a := r) (m := j - r) (by omega) hn0
end Go.Proofs.YtmbihjlflcjlnaaGreat
