/- Texts: Cb Aa Ab Ak Bt. -/
import Derived.Test.YtincpmdldpakkaaGreatDoorRc17
import Derived.Test.YtincpmdldpakkaaGreatDoorRc09
import Derived.Test.YtincpmdldpakkaaGreatDoorRc05
namespace Go.Df
open Go.RowKit
theorem least_exists (P : Nat → Prop) (h : ∃ m, P m) : ∃ m, P m ∧ ∀ m', P m' → m ≤ m' := by
 have hk : ∀ k m, m ≤ k → P m → ∃ m, P m ∧ ∀ m', P m' → m ≤ m' := by
   intro k
   induction k with
   | zero => intro m hm hp; obtain rfl : m = 0 := by omega
             exact ⟨0, hp, fun _ _ => Nat.zero_le _⟩
   | succ k ih =>
     intro m hm hp
     by_cases hx : ∃ m', P m' ∧ m' < m
     · obtain ⟨m', h1, h2⟩ := hx
       exact ih m' (by omega) h1
     · exact ⟨m, hp, fun m' h1 => Nat.le_of_not_lt fun h2 => hx ⟨m', h1, h2⟩⟩
 obtain ⟨m, hm⟩ := h
 exact hk m m (Nat.le_refl _) hm
open Classical in
/-- The least number of which P holds in a world. -/
noncomputable def leastM (P : Nat → World → Prop) (w : World) : Nat := if h : ∃ m, P m w then Classical.choose (least_exists (fun m => P m w) h) else 0
theorem leastM_spec {P : Nat → World → Prop} {w : World} (h : ∃ m, P m w) : P (leastM P w) w := by
 unfold leastM
 rw [dif_pos h]
 exact (Classical.choose_spec (least_exists (fun m => P m w) h)).1
theorem leastM_le {P : Nat → World → Prop} {w : World} {m : Nat} (h : P m w) : leastM P w ≤ m := by
 unfold leastM
 rw [dif_pos ⟨m, h⟩]
 exact (Classical.choose_spec (least_exists (fun m => P m w) ⟨m, h⟩)).2 m h
end Go.Df
namespace Go.Proofs.YtincpmdldpakkaaGreatDoor
open Go.RowKit Go.Df Go.Df.Iv Go.Df.Sp
theorem pop_some {rA qA : Option Addr} {rc qn qc n : Nat} {r : List Nat} {N : Nat} (w : World) (hr : SIn w rA 0 rc []) (hq : SIn w qA qn qc (ofNats (n :: r))) (hd : (n :: r).Nodup) (hN : ∀ x ∈ n :: r, x < N) (h8 : N ≤ 8192) :
  Calls Tryz.prog 137 #[.agg #[.slice rA 0 rc, .slice qA qn qc]] w (GetPop w (n : Int) [] (ofNats r) true) := by
 have hc := wl_ok hd hN h8
 have hl : qn = r.length + 1 := by have := hq.1.1; rw [ofNats_len] at this; simpa using this.symm
 have e1 : gi (ofNats (n :: r)) 0 = (n : Int) := by rw [gi_ofNats (by simp)]; rfl
 have e2 : (ofNats (n :: r)).drop 1 = ofNats r := by simp [ofNats]
 have key : Calls Tryz.prog 137 #[.agg #[.slice rA 0 rc, .slice qA qn qc]] w (GetPop w (gi (ofNats (n :: r)) 0) [] ((ofNats (n :: r)).drop 1) true) := by
  by_cases h2 : 2 ≤ qn
  ·exact pop_two rA qA 0 rc qn qc [] (ofNats (n :: r)) w hr.1 hq.1 hc h2 hq.2.1 (fun _ => rfl)
  ·obtain rfl : qn = 1 := by omega
   exact pop_one rA qA 0 rc qc [] (ofNats (n :: r)) w hr.1 hq.1 hc hq.2.1 (fun _ => rfl)
 rw [e1, e2] at key
 exact key
structure Dr (p : Vb) (J : Nat → List (Nat × Nat) → St → Prop) : Prop where
 wf : ∀ n r s, J n r s → Wf p s
 pop : ∀ s n r, J 0 [] s → s.q = n :: r → J n (s.pd n) (popS s n r)
 rest : ∀ n s, J n [] s → J 0 [] s
def GetD (p : Vb) (K : Kn) (w0 : World) (b : Nat) (O : Nat → Prop) (G : Gh) (w : World) (s : St) (J : St → Prop) (e : Ending) (w' : World) : Prop := ∃ s' O' G', e = .returned (.tuple #[]) ∧ Mem p K w0 b O' G' w' s' ∧ Fy K O O' G G' s s' w w' ∧ J s' ∧ mea p s' ≤ mea p s
end Go.Proofs.YtincpmdldpakkaaGreatDoor
namespace Go.Df
open Go.RowKit
namespace Iv
open Sp
noncomputable def lv (p : Vb) (T : Nat → Nat → Nat → D) (V : Nat → Nat → U) (k : Nat) (q : Xp) : U := app (xd q) (solV p T V (ge p.es k).a.toNat q.i.toNat)
def IsSol (p : Vb) (S : Nat → Nat → U) : Prop := ∃ T V, Clo p T ∧ Snd p T ∧ VClo p T V ∧ VSnd p T V ∧ ∀ n d, n < p.ns.length → d < p.F.toNat → Glb (At p T V n d) (S n d)
theorem IsSol.eq {p : Vb} {S S' : Nat → Nat → U} (h : IsSol p S) (k : IsSol p S') {n d : Nat} (hn : n < p.ns.length) (hd : d < p.F.toNat) : S n d = S' n d := by
 obtain ⟨T, V, c1, s1, v1, w1, g1⟩ := h
 obtain ⟨T', V', c2, s2, v2, w2, g2⟩ := k
 have e : T' = T := by funext n a d; exact clo_eq c2 s2 c1 s1 n a d
 subst e
 have e : V' = V := by funext n a; exact vclo_eq v2 w2 v1 w1 n a
 subst e
 exact (g1 n d hn hd).eq (g2 n d hn hd)
def V0s (p : Vb) : Nat → Nat → U := vput (fun _ _ => topV) p.mn.toNat 0 botV
end Iv
end Go.Df
namespace Go.Df
open Go.RowKit
namespace Iv
open Sp
structure Vw (N f : Nat) (w : World) (go : Nat) (rw rc : Nat → Nat) (V : Nat → Nat → U) : Prop where
 glt : go < w.heap.size
 row : ∀ n, n < N → w.cell? ⟨go, n, none⟩ = some (.slice (some ⟨rw n, 0, none⟩) f (rc n))
 cell : ∀ n a, n < N → a < f → w.cell? ⟨rw n, a * 2, none⟩ = some (.int .i64 (V n a).1.k) ∧ w.cell? ⟨rw n, a * 2 + 1, none⟩ = some (.int .i64 (V n a).1.n)
 fr : ∀ n i, n < N → w.frozen? ⟨rw n, i, none⟩ = false
 lt : ∀ n, n < N → rw n < w.heap.size
 inj : ∀ n m, n < N → m < N → rw n = rw m → n = m
 ne : ∀ n, n < N → rw n ≠ go
section
variable {N f : Nat} {w w' : World} {go : Nat} {rw rc : Nat → Nat} {V : Nat → Nat → U}
theorem Vw.kept (h : Vw N f w go rw rc V) {X : List Nat} (hk : Kept X w w') (hg : go ∉ X) (hr : ∀ n, n < N → rw n ∉ X) : Vw N f w' go rw rc V :=
 ⟨Nat.lt_of_lt_of_le h.glt hk.size, fun n hn => (hk.cell go n h.glt hg).trans (h.row n hn), fun n a hn ha => ⟨(hk.cell _ _ (h.lt n hn) (hr n hn)).trans (h.cell n a hn ha).1, (hk.cell _ _ (h.lt n hn) (hr n hn)).trans (h.cell n a hn ha).2⟩,
  fun n i hn => (hk.frozen _ _ (h.lt n hn) (hr n hn)).trans (h.fr n i hn), fun n hn => Nat.lt_of_lt_of_le (h.lt n hn) hk.size, h.inj, h.ne⟩
theorem Vw.keep (h : Vw N f w go rw rc V) (hk : Kept [] w w') : Vw N f w' go rw rc V := h.kept hk (by simp) (by simp)
theorem Vw.put (h : Vw N f w go rw rc V) {n a : Nat} (hn : n < N) (ha : a < f) (y : U) {i : Nat} (hi : i = a * 2) : Vw N f ((w.setCell ⟨rw n, i, none⟩ (.int .i64 y.1.k)).setCell ⟨rw n, i + 1, none⟩ (.int .i64 y.1.n)) go rw rc (vput V n a y) := by
 subst hi
 have hne := h.ne n hn
 have hc := h.cell n a hn ha
 refine ⟨by simpa [World.setCell] using h.glt, fun m hm => ?_, fun m a' hm ha' => ?_, fun m i hm => by simpa using h.fr m i hm, fun m hm => by simpa [World.setCell] using h.lt m hm, h.inj, h.ne⟩
 ·rw [set_other (.inl hne), set_other (.inl hne)]
  exact h.row m hm
 ·by_cases e : m = n ∧ a' = a
  ·obtain ⟨rfl, rfl⟩ := e
   rw [vput_at]
   have s1 := set_same (v := .int .i64 y.1.k) hc.1
   have c2 : (w.setCell ⟨rw m, a' * 2, none⟩ (.int .i64 y.1.k)).cell? ⟨rw m, a' * 2 + 1, none⟩ = some (.int .i64 (V m a').1.n) := (set_other (.inr (by omega))).trans hc.2
   have s2 := set_same (v := .int .i64 y.1.n) c2
   exact ⟨by rw [set_other (.inr (by omega))]; exact s1, s2⟩
  ·have e9 : vput V n a y m a' = V m a' := if_neg e
   rw [e9]
   have hdis : rw n ≠ rw m ∨ a ≠ a' := by
    by_cases e1 : m = n
    ·right; intro e2; exact e ⟨e1, e2.symm⟩
    ·left; exact fun e2 => e1 (h.inj n m hn hm e2).symm
   have key : ∀ (w : World) (v : Value) (x z : Nat), x < 2 → z < 2 → (w.setCell ⟨rw n, a * 2 + x, none⟩ v).cell? ⟨rw m, a' * 2 + z, none⟩ = w.cell? ⟨rw m, a' * 2 + z, none⟩ := fun w v x z hx hz => set_other (hdis.imp id (fun h9 => by omega))
   have hcm := h.cell m a' hm ha'
   refine ⟨?_, ?_⟩
   ·exact ((key _ (.int .i64 y.1.n) 1 0 (by omega) (by omega)).trans (key w (.int .i64 y.1.k) 0 0 (by omega) (by omega))).trans hcm.1
   ·exact ((key _ (.int .i64 y.1.n) 1 1 (by omega) (by omega)).trans (key w (.int .i64 y.1.k) 0 1 (by omega) (by omega))).trans hcm.2
end
end Iv
end Go.Df
namespace Go.Df
open Go.RowKit
def EmV (z : Value) (base : Nat) (tb : TypeId) (m : Nat) (bs : Nat → Nat) (n : Nat) (w : World) : Prop :=
 (∀ x, x < n → base ≤ bs x ∧ Tag w (bs x) tb ∧ ∀ i, i < m → w.cell? ⟨bs x, i, none⟩ = some z) ∧ ∀ x y, x < n → y < n → bs x = bs y → x = y
theorem EmV.kept {z : Value} {base : Nat} {tb : TypeId} {m n : Nat} {bs : Nat → Nat} {X : List Nat} {w w' : World} (h : EmV z base tb m bs n w) (hk : Kept X w w') (hX : ∀ x, x < n → bs x ∉ X) : EmV z base tb m bs n w' :=
 ⟨fun x hx => by
  obtain ⟨h1, h2, h3⟩ := h.1 x hx
  exact ⟨h1, h2.same (hk.block _ h2.lt (hX x hx)), fun i hi => (hk.cell _ _ h2.lt (hX x hx)).trans (h3 i hi)⟩, h.2⟩
def updN (f : Nat → Nat) (n x : Nat) : Nat → Nat := fun i => if i = n then x else f i
theorem EmV.snoc {z : Value} {base : Nat} {tb : TypeId} {m n g : Nat} {bs : Nat → Nat} {w : World} (h : EmV z base tb m bs n w) (hg : base ≤ g) (ht : Tag w g tb) (hc : ∀ i, i < m → w.cell? ⟨g, i, none⟩ = some z) (hn : ∀ x, x < n → bs x ≠ g) : EmV z base tb m (updN bs n g) (n + 1) w := by
 refine ⟨fun x hx => ?_, fun x y hx hy e => ?_⟩
 ·unfold updN
  by_cases e : x = n
  ·rw [if_pos e]; exact ⟨hg, ht, hc⟩
  ·rw [if_neg e]; exact h.1 x (by omega)
 ·unfold updN at e
  by_cases e1 : x = n
  ·by_cases e2 : y = n
   ·omega
   ·rw [if_pos e1, if_neg e2] at e; exact absurd e.symm (hn y (by omega))
  ·by_cases e2 : y = n
   ·rw [if_neg e1, if_pos e2] at e; exact absurd e (hn x (by omega))
   ·rw [if_neg e1, if_neg e2] at e; exact h.2 x y (by omega) (by omega) e
theorem rows_snoc (bs rc : Nat → Nat) (m n g c : Nat) : ((List.range n).map fun x => Value.slice (some ⟨bs x, 0, none⟩) m (rc x)) ++ [Value.slice (some ⟨g, 0, none⟩) m c] = (List.range (n + 1)).map fun x => Value.slice (some ⟨updN bs n g x, 0, none⟩) m (updN rc n c x) := by
 rw [List.range_succ, List.map_append]
 congr 1
 ·refine List.map_congr_left fun x hx => ?_
  have : x ≠ n := by have := List.mem_range.1 hx; omega
  simp [updN, this]
 ·simp [updN]
def truthOf : Value → Nat | .bool true => 1 | _ => 0
namespace Iv
open Sp
structure EdgeR (p : Vb) (T : Nat → Nat → Nat → D) (f k : Nat) : Prop where
 flow : (ge p.es k).k = 1 ∨ (ge p.es k).k = 5 → ∀ q ∈ gl p.fl k, ∀ a, a < f → le (T (ge p.es k).b.toNat a q.o.toNat) (comp (T (ge p.es k).a.toNat a q.i.toNat) (xd q))
 call : (ge p.es k).k = 2 → ∀ q ∈ gl p.fl k, ∀ a, a < f → T (ge p.es k).a.toNat a q.i.toNat ≠ top → xd q ≠ top → le (T (ge p.es k).b.toNat q.o.toNat q.o.toNat) shift
 ret : (ge p.es k).k = 3 ∨ (ge p.es k).k = 4 → ∀ c, c < p.es.length → RC p k c → ∀ q ∈ gl p.fl c, ∀ u ∈ gl p.fl k, RQ p T k c f q u
end Iv
end Go.Df
namespace Go.Proofs.YtincpmdldpakkaaGreatDoor
open Go.RowKit Go.Df Go.Df.Iv Go.Df.Sp
attribute [local go_sem ↓] Go.wp_at_zero Go.wp_at_succ
set_option maxRecDepth 100000 in
set_option maxHeartbeats 40000000 in
theorem spread_any {p : Vb} {K : Kn} {w0 : World} {b : Nat} {O : Nat → Prop} {G : Gh} {s : St} (w : World) (k a d : Nat) (x : D) (x0 x1 x2 : Int) (hx : x.1 = ⟨x0, x1, x2⟩) (hI : Inp p K w0) (ho : VOk p) (hf : VFit p) (hmu : mu0 p ≤ 1000000) (hg : Iv.Good p s) (hm : Mem p K w0 b O G w s) (hk : k < p.es.length) (ha : a < p.F.toNat)
   (hsnd : ∀ Y, Clo p Y → ∀ q ∈ gl p.fl k, q.i = d → le (Y (ge p.es k).b.toNat a q.o.toNat) (comp x (xd q))) :
   Calls Tryz.prog 138 #[.pointer (some ⟨b, 0, none⟩), .int .i64 k, .int .i64 a, .int .i64 d, .agg #[.int .i64 x0, .int .i64 x1, .int .i64 x2]] w (GetP p K w0 b O G w s fun t => ∀ q ∈ gl p.fl k, q.i = d → le (t.T (ge p.es k).b.toNat a q.o.toNat) (comp x (xd q))) := by
 have HM := Lib.hid hm
 have HG := Lib.hid hg
 have HI := Lib.hid hI
 have HO := Lib.hid ho
 have HFI := Lib.hid hf
 have HSN := Lib.hid hsnd
 have HXX := Lib.hid hx
 have HMU := Lib.hid hmu
 have HN1 := Lib.hid hI.nd.1.symm
 have HN2 : Hid (K.n1 ≤ 8192) := by have h1 := (If.sup_parts ho.sup).1; have h2 := hI.nd.1; show _ ≤ _; omega
 have HF2 : Hid (p.F ≤ 1024) := ho.f2
 obtain ⟨b3, o3, Ai, ni, ci, e3, hl30, hl3, hk3, r3, hci, hxps, hni, hni2⟩ := hI.flow ho hm.low hk
 have HPR := Lib.hid hxps
 clear hm hg hI ho hf hsnd hx hmu hxps
 go_enter Tryz.func138, Tryz.ntmps138
 go_upto_region 1 with fail
 refine wp_named (fun W => ∃ b0, w.heap.size = b0 ∧ Blk W b0 [.int .i64 x0, .int .i64 x1, .int .i64 x2] ∧ Below w.heap.size w W) ⟨_, rfl, ?_, ?_⟩ ?_
 · exact kbn
 · go_grown
 rintro W ⟨b0, e0, B0, hB⟩
 rw [e0]
 have G0 : w.heap.size ≤ b0 := by omega
 clear e0
 have ⟨L0, C0, F0⟩ := B0
 have hkW : Kept [] w W := (Kept.refl _ _).call hB
 have M0 := Lib.hid (HM.out.kept hkW)
 have SB : Hid (SafeB O W b0) := HM.out.fresh G0 L0
 have HB0 := Lib.hid B0
 have Bw := M0.out.box
 unfold sbox at Bw
 have ⟨LB, CB, FB⟩ := Bw
 have r3' := (hkW.cell b3 (o3 + k) hl3 (by simp)).trans r3
 have hl3' : b3 < W.heap.size := Nat.lt_of_lt_of_le hl3 hkW.size
 clear r3 hl3
 go_upto_region 2 with (go_at_call 84; refine (from_any Ai ni ci d (gl p.fl k) w0 _ HPR.out M0.out.low hni hni2 hci (gx_mono HO.out)).mono ?_; rintro e w1 ⟨A', m, c', rfl, hp1, hb1⟩)
 have HP1 := Lib.hid hp1
 have HML := Lib.hid hp1.1.symm
 have hk1 : Kept [] W w1 := (Kept.refl _ _).call hb1
 have M1 := Lib.hid (M0.out.kept hk1)
 have F1 : Hid (Fy K O O G G s s W w1) := Fy.kept K O G s hk1
 have F0w : Hid (Fy K O O G G s s w W) := Fy.kept K O G s hkW
 have hm8 : m ≤ 8192 := by
   have h3 : (fromsX (gl p.fl k) d).length ≤ (gl p.fl k).length := List.length_filter_le _ _
   have h2 := HPR.out.1
   have h4 := HML.out
   omega
 clear hp1 r3' e3 CB FB Bw LB C0 F0 M0 HM
 go_loopw [23] (fun s23 wr => ∃ (j : Nat) (s1 : St) (O1 : Nat → Prop) (G1 : Gh), j ≤ m ∧ s23 = .int .i64 j ∧ Hid (Mem p K w0 b O1 G1 wr s1) ∧ Hid (Fy K O O1 G G1 s s1 W wr) ∧ Hid (Ex p s s1) ∧ Hid (∀ i, i < j → ∀ q, (fromsX (gl p.fl k) d)[i]? = some q → le (s1.T (ge p.es k).b.toNat a q.o.toNat) (comp x (xd q)))) (fun s23 _ => m - (intOf s23).toNat)
 case atStart => exact ⟨0, s, O, G, Nat.zero_le _, rfl, M1, F1, Ex.refl HG.out, fun i hi => absurd hi (Nat.not_lt_zero _)⟩
 case round =>
 clear M1 F1
 obtain ⟨j, s1, O1, G1, hj, rfl, MR, FR, EX, DN⟩ := hrel
 by_cases hlt : j < m
 case neg =>
   obtain rfl : j = m := by omega
   go_wp2_with fail
   go_end0
   refine ⟨s1, O1, G1, rfl, MR.out, F0w.out.trans FR.out, EX.out, fun q hq hqi => ?_⟩
   obtain ⟨i, hi, rfl⟩ := List.getElem_of_mem (mem_fromsX.2 ⟨hq, hqi⟩)
   exact DN.out i (by rw [HML.out]; exact hi) _ (List.getElem?_eq_getElem hi)
 obtain ⟨b5, o5, q, i', o, rfl, hl50, hl5, hjq, hqm, hqi, hqo, hiF, hoF, r50, r51, r52, r53, r54⟩ := xps_at HO.out MR.out.low (l := fromsX (gl p.fl k) d) (fun q hq => (mem_fromsX.1 hq).1) HP1.out hlt
 have hj1 : (j : Int) < (m : Int) := by omega
 have HXD : Hid ((xd q).1 = ⟨q.k, q.b, q.c⟩) := xd_of HO.out HFI.out hqm
 have hqd : q.i = d := by
   obtain ⟨h1, h2⟩ := List.getElem?_eq_some_iff.1 hjq
   rw [← h2]
   exact (mem_fromsX.1 (List.getElem_mem h1)).2
 obtain ⟨qk, hqk⟩ : ∃ v, q.k = v := ⟨_, rfl⟩
 obtain ⟨qb, hqb⟩ : ∃ v, q.b = v := ⟨_, rfl⟩
 obtain ⟨qc, hqc⟩ : ∃ v, q.c = v := ⟨_, rfl⟩
 rw [hqk] at r52
 rw [hqb] at r53
 rw [hqc] at r54
 have HXE : Hid ((xd q).1 = ⟨qk, qb, qc⟩) := by rw [← hqk, ← hqb, ← hqc]; exact HXD
 have HJQ := Lib.hid hjq
 have HQM := Lib.hid hqm
 have HQO := Lib.hid hqo
 have HQD := Lib.hid hqd
 clear hqk hqb hqc hjq hqm hqo hqi hqd HXD
 go_upto_region 4 with fail
 refine wp_named (fun V => ∃ g, wr.heap.size = g ∧ Blk V g [.int .i64 i', .int .i64 o, .int .i64 qk, .int .i64 qb, .int .i64 qc] ∧ Kept [] wr V) ⟨_, rfl, Blk.new _ _ _ _ rfl, (Kept.refl _ _).alloc _⟩ ?_
 rintro V ⟨g, eg, Bg, hkV⟩
 rw [eg]
 have ⟨Lg, Cg, Fg⟩ := Bg
 have MV := Lib.hid (MR.out.kept hkV)
 have FV := Lib.hid (FR.out.trans (Fy.kept K O1 G1 s1 hkV))
 have BV := MV.out.box
 unfold sbox at BV
 have ⟨LV, CV, FVb⟩ := BV
 have ⟨Lx, Cx, Fx'⟩ := SB.out.blk FV.out.fx HB0.out
 obtain ⟨b2, o2, ea, eb, e2, hl20, hl2, hk2, hea, heb, hea2, heb2, r2a, r2b, -, -⟩ := HI.out.edge HO.out MV.out.low hk
 have HEB := Lib.hid heb
 obtain ⟨z0, hz0⟩ : ∃ v, (comp x (xd q)).1.k = v := ⟨_, rfl⟩
 obtain ⟨z1, hz1⟩ : ∃ v, (comp x (xd q)).1.b = v := ⟨_, rfl⟩
 obtain ⟨z2, hz2⟩ : ∃ v, (comp x (xd q)).1.c = v := ⟨_, rfl⟩
 have eZ : (comp x (xd q)).1 = ⟨z0, z1, z2⟩ := by rw [← hz0, ← hz1, ← hz2]
 have HCO : Hid (∀ w9, Calls Tryz.prog 85 #[.agg #[.int .i64 x0, .int .i64 x1, .int .i64 x2], .agg #[.int .i64 qk, .int .i64 qb, .int .i64 qc]] w9 fun e w' => e = .returned (.agg #[.int .i64 z0, .int .i64 z1, .int .i64 z2]) ∧ Below w9.heap.size w9 w') := fun w9 => compD_any _ _ _ _ _ _ _ _ _ _ _ HXX.out HXE.out eZ w9
 have HIN : Hid (∀ w9, Kept [] V w9 → Calls Tryz.prog 76 #[.pointer (some ⟨b, 0, none⟩), .int .i64 eb, .int .i64 a, .int .i64 o, .agg #[.int .i64 z0, .int .i64 z1, .int .i64 z2]] w9 (GetP p K w0 b O1 G1 V s1 fun t => le (t.T (ge p.es k).b.toNat a q.o.toNat) (comp x (xd q)))) := fun w9 hk9 =>
   (include_any w9 eb a o (comp x (xd q)) z0 z1 z2 eZ (MV.out.kept hk9) EX.out.good.wf HN1.out HN2.out HF2.out HMU.out heb2 ha hoF).mono (fun e w' h9 => by
     have h8 := (h9.ex EX.out.good heb2 ha hoF (fun Y hY => by have h7 := HSN.out Y hY q HQM.out HQD.out; rw [HEB.out, HQO.out] at h7; exact h7)).from hk9
     rw [HEB.out, HQO.out]
     exact h8)
 clear hz0 hz1 hz2 eZ r50 r51 r52 r53 r54 eg r2a hea heb
 refine wp_region_E 18 (fun w' => SX0 V w') (by kernel_rfl) (by (exact kp0)) (fun hHeld => ?_)
 refine WE_tk 0 ?_
 refine WE_tk 1 ?_
 refine WE_tk 2 ?_
 refine WE_tk 3 ?_
 refine WE_tk 4 ?_
 refine WE_tk 5 ?_
 refine WE_tk 6 ?_
 refine WE_tk 7 ?_
 refine WE_tk 8 ?_
 refine WE_tk 9 ?_
 refine WE_tk 10 ?_
 refine WE_tk 11 ?_
 refine WE_tk 12 ?_
 refine WE_tk 13 ?_
 refine WE_tk 14 ?_
 refine WE_tk 15 ?_
 refine WE_tk 16 ?_
 refine WE_step 17 rfl (by kernel_rfl) (fun K hK => ?_)
 go_simp
 (first | (go_at_call 85; refine (HCO.out _).mono ?_; rintro e w8 ⟨rfl, hb8⟩) | (go_at_call 76; refine (HIN.out _ (by (exact kpt0))).mono ?_; rintro e w9 ⟨s9, O9, G9, rfl, M9, F9, E9, D9⟩))
 (try go_wp2_with fail)
 refine hK.out _ _ ?_ (fun hHeld => ?_)
 · (exact kp0)
 clear hK K
 refine WE_put ?_
 refine WE_last rfl (by kernel_rfl) (fun K hK => ?_)
 go_simp
 (first | (go_at_call 85; refine (HCO.out _).mono ?_; rintro e w8 ⟨rfl, hb8⟩) | (go_at_call 76; refine (HIN.out _ (by (exact kpt0))).mono ?_; rintro e w9 ⟨s9, O9, G9, rfl, M9, F9, E9, D9⟩))
 (try go_wp2_with fail)
 refine hK.out _ _ ?_
 clear hK K
 go_wp2_with fail
 refine ⟨⟨j + 1, s9, O9, G9, by omega, by go_num, M9, FV.out.trans F9, EX.out.trans E9, fun i hi q' hq' => ?_⟩, by simp [intOf]; omega⟩
 rcases Nat.lt_or_ge i j with h1 | h1
 · exact le_trans (E9.gw.le _ _ _) (DN.out i h1 q' hq')
 · obtain rfl : i = j := by omega
   rw [HJQ.out] at hq'
   injection hq' with hq'
   rw [← hq']
   exact D9
end Go.Proofs.YtincpmdldpakkaaGreatDoor
