/- Texts: Bs Co Cp Bd Cq Cr. -/
import Derived.Test.YtincpmdldpakkaaGreatDoorJb19
import Derived.Test.YtincpmdldpakkaaGreatDoorJb10
import Derived.Test.YtincpmdldpakkaaGreatDoorJb18
namespace Go.Df.Iv
open Go Go.RowKit Go.Df.Sp
structure Ex (p : Vb) (s t : St) : Prop where
 gw : Gw s t
 good : Good p t
 mea : mea p t ≤ mea p s
theorem Ex.refl {p : Vb} {s : St} (h : Good p s) : Ex p s s := ⟨Gw.refl s, h, Nat.le_refl _⟩
theorem Ex.trans {p : Vb} {s t u : St} (h : Ex p s t) (k : Ex p t u) : Ex p s u := ⟨h.gw.trans k.gw, k.good, Nat.le_trans k.mea h.mea⟩
theorem Ex.inc {p : Vb} {s : St} (h : Good p s) {n a d : Nat} {x : D} (hn : n < p.ns.length) (ha : a < p.F.toNat) (hd : d < p.F.toNat) (hx : ∀ Y, Clo p Y → le (Y n a d) x) : Ex p s (s.inc n a d x) := ⟨inc_gw s n a d x, h.inc hn ha hd hx, inc_mea hn ha hd⟩
theorem VOk.edge {p : Vb} (h : VOk p) {k : Nat} (hk : k < p.es.length) :
   0 ≤ (ge p.es k).a ∧ (ge p.es k).a < p.ns.length ∧ 0 ≤ (ge p.es k).b ∧ (ge p.es k).b < p.ns.length ∧ 1 ≤ (ge p.es k).k ∧ (ge p.es k).k ≤ 5 ∧ ((ge p.es k).k ≠ 1 → (ge p.es k).k ≠ 5 → 0 ≤ (ge p.es k).c ∧ (ge p.es k).c < p.ns.length) ∧ fitsB p.ns p.es (ge p.es k) = true := If.Ok.edge (p := Iv.pf p) h.pf hk
theorem gx_mono {p : Vb} (ho : VOk p) {k : Nat} : ∀ i j, i ≤ j → j < (gl p.fl k).length → (gx (gl p.fl k) i).i ≤ (gx (gl p.fl k) j).i := by
 intro i j
 induction j with
 | zero => intro h _; obtain rfl : i = 0 := by omega
           exact Int.le_refl _
 | succ j ih =>
   intro h hj
   by_cases e : i = j + 1
   · subst e; exact Int.le_refl _
   · have h1 := ih (by omega) (by omega)
     have h2 := (pair_in ((ho.fl k (mem_gl (gx_mem hj))).2.1 (j + 1) hj)).2.2.2.2.2 (by omega)
     have h3 : (gx (gl p.fl k) j).i ≤ (gx (gl p.fl k) (j + 1)).i := by
       unfold lessP at h2
       simp only [Nat.add_sub_cancel] at h2
       split at h2
       · simp at h2; omega
       · rename_i h4; omega
     omega
end Go.Df.Iv
namespace Go.Proofs.YtincpmdldpakkaaGreatDoor
open Go.RowKit Go.Df Go.Df.Iv Go.Df.Sp
section
variable {p : Vb} {K : Kn} {w0 w w' : World} {b : Nat} {O O' : Nat → Prop} {G : Gh} {s s' : St}
def GetP (p : Vb) (K : Kn) (w0 : World) (b : Nat) (O : Nat → Prop) (G : Gh) (w : World) (s : St) (Q : St → Prop) (e : Ending) (w' : World) : Prop := ∃ s' O' G', e = .returned (.tuple #[]) ∧ Mem p K w0 b O' G' w' s' ∧ Fy K O O' G G' s s' w w' ∧ Ex p s s' ∧ Q s'
theorem GetS.from {v : World} {e : Ending} (h : GetS p K w0 b O G w s s' e w') (hk : Kept [] v w) : GetS p K w0 b O G v s s' e w' := by
 obtain ⟨O', G', h1, h2, h3⟩ := h
 exact ⟨O', G', h1, h2, (Fy.kept K O G s hk).trans h3⟩
theorem GetP.from {v : World} {Q : St → Prop} {e : Ending} (h : GetP p K w0 b O G w s Q e w') (hk : Kept [] v w) : GetP p K w0 b O G v s Q e w' := by
 obtain ⟨s', O', G', h1, h2, h3, h4⟩ := h
 exact ⟨s', O', G', h1, h2, (Fy.kept K O G s hk).trans h3, h4⟩
theorem GetS.ex {n a d : Nat} {x : D} {e : Ending} (h : GetS p K w0 b O G w s (s.inc n a d x) e w') (hg : Iv.Good p s) (hn : n < p.ns.length) (ha : a < p.F.toNat) (hd : d < p.F.toNat) (hx : ∀ Y, Clo p Y → le (Y n a d) x) : GetP p K w0 b O G w s (fun t => le (t.T n a d) x) e w' := by
 obtain ⟨O', G', h1, h2, h3⟩ := h
 exact ⟨_, O', G', h1, h2, h3, Ex.inc hg hn ha hd hx, inc_le s n a d x⟩
theorem Inp.edge (hI : Inp p K w0) (ho : VOk p) (hb : Below w0.heap.size w0 w) {k : Nat} (hk : k < p.es.length) : ∃ b2 o2 a e : Nat, K.A2 = some ⟨b2, o2, none⟩ ∧ b2 < w0.heap.size ∧ b2 < w.heap.size ∧ (k : Int) < (K.n2 : Int) ∧ (ge p.es k).a = (a : Int) ∧ (ge p.es k).b = (e : Int) ∧ a < p.ns.length ∧ e < p.ns.length ∧
   w.cell? ⟨b2, o2 + k * 4, none⟩ = some (.int .i64 a) ∧ w.cell? ⟨b2, o2 + k * 4 + 1, none⟩ = some (.int .i64 e) ∧ w.cell? ⟨b2, o2 + k * 4 + 2, none⟩ = some (.int .i64 (ge p.es k).k) ∧ w.cell? ⟨b2, o2 + k * 4 + 3, none⟩ = some (.int .i64 (ge p.es k).c) := by
 have hn : k < K.n2 := by rw [← hI.ed.1]; exact hk
 obtain ⟨b2, o2, e2, hl, hc⟩ := hI.ed.2 (by omega)
 obtain ⟨h1, h2, h3, h4⟩ := hc k hn
 have h5 := ho.edge hk
 obtain ⟨a, ha⟩ := Int.eq_ofNat_of_zero_le h5.1
 obtain ⟨e, he⟩ := Int.eq_ofNat_of_zero_le h5.2.2.1
 refine ⟨b2, o2, a, e, e2, hl, Nat.lt_of_lt_of_le hl hb.size, by omega, ha, he, by omega, by omega, ?_, ?_, ?_, ?_⟩
 · rw [← ha]; exact (hb.cell (p := ⟨b2, _, none⟩) hl).trans h1
 · rw [← he]; exact (hb.cell (p := ⟨b2, _, none⟩) hl).trans h2
 · exact (hb.cell (p := ⟨b2, _, none⟩) hl).trans h3
 · exact (hb.cell (p := ⟨b2, _, none⟩) hl).trans h4
theorem Inp.flow (hI : Inp p K w0) (ho : VOk p) (hb : Below w0.heap.size w0 w) {k : Nat} (hk : k < p.es.length) : ∃ (b3 o3 : Nat) (Ai : Option Addr) (ni ci : Nat), K.A3 = some ⟨b3, o3, none⟩ ∧ b3 < w0.heap.size ∧ b3 < w.heap.size ∧ (k : Int) < (K.n3 : Int) ∧
   w.cell? ⟨b3, o3 + k, none⟩ = some (.slice Ai ni ci) ∧ ni ≤ ci ∧ Xps w0 Ai ni (gl p.fl k) ∧ 0 < ni ∧ ni ≤ 8192 := by
 have hkf : k < p.fl.length := by rw [ho.len]; exact hk
 have hn : k < K.n3 := by rw [← hI.fl.1]; exact hkf
 obtain ⟨b3, o3, e3, hl, hc⟩ := hI.fl.2 (by omega)
 obtain ⟨Ai, ni, ci, h1, h3⟩ := hc k hn
 have h4 := ho.fl k hkf
 refine ⟨b3, o3, Ai, ni, ci, e3, hl, Nat.lt_of_lt_of_le hl hb.size, by omega, (hb.cell (p := ⟨b3, _, none⟩) hl).trans h1, hI.fc _ _ _ _ _ _ e3 hn h1, h3, ?_, ?_⟩
 · have := h3.1; omega
 · have := h3.1; omega
theorem xps_at (ho : VOk p) (hb : Below w0.heap.size w0 w) {A : Option Addr} {m k : Nat} {l : List Xp} (hl : ∀ q ∈ l, q ∈ gl p.fl k) (h : Xps w0 A m l) {j : Nat} (hj : j < m) : ∃ (b5 o5 : Nat) (q : Xp) (i o : Nat), A = some ⟨b5, o5, none⟩ ∧ b5 < w0.heap.size ∧ b5 < w.heap.size ∧ l[j]? = some q ∧ q ∈ gl p.fl k ∧ q.i = (i : Int) ∧ q.o = (o : Int) ∧ i < p.F.toNat ∧ o < p.F.toNat ∧
   w.cell? ⟨b5, o5 + j * 5, none⟩ = some (.int .i64 (i : Nat)) ∧ w.cell? ⟨b5, o5 + j * 5 + 1, none⟩ = some (.int .i64 (o : Nat)) ∧ w.cell? ⟨b5, o5 + j * 5 + 2, none⟩ = some (.int .i64 q.k) ∧ w.cell? ⟨b5, o5 + j * 5 + 3, none⟩ = some (.int .i64 q.b) ∧ w.cell? ⟨b5, o5 + j * 5 + 4, none⟩ = some (.int .i64 q.c) := by
 obtain ⟨b5, o5, e, hlt, hc⟩ := h.2 (by omega)
 have hj' : j < l.length := by rw [h.1]; exact hj
 obtain ⟨h1, h2, h3, h4, h5⟩ := hc j hj
 have hm := hl _ (List.getElem_mem hj')
 have hp := ho.pair hm
 obtain ⟨i, hi'⟩ := Int.eq_ofNat_of_zero_le hp.1
 obtain ⟨o, ho'⟩ := Int.eq_ofNat_of_zero_le hp.2.2.1
 rw [gx_lt hj'] at h1 h2 h3 h4 h5
 rw [hi'] at h1
 rw [ho'] at h2
 exact ⟨b5, o5, l[j], i, o, e, hlt, Nat.lt_of_lt_of_le hlt hb.size, List.getElem?_eq_getElem hj', hm, hi', ho', by omega, by omega, (hb.cell (p := ⟨b5, _, none⟩) hlt).trans h1, (hb.cell (p := ⟨b5, _, none⟩) hlt).trans h2, (hb.cell (p := ⟨b5, _, none⟩) hlt).trans h3, (hb.cell (p := ⟨b5, _, none⟩) hlt).trans h4, (hb.cell (p := ⟨b5, _, none⟩) hlt).trans h5⟩
theorem sin_at {O : Nat → Prop} {w : World} {A : Option Addr} {n c : Nat} {l : List Nat} (h : SInO O w A n c (ofNats l)) {i : Nat} (hi : i < n) : ∃ b6 o6, A = some ⟨b6, o6, none⟩ ∧ b6 < w.heap.size ∧ ∃ h' : i < l.length, w.cell? ⟨b6, o6 + i, none⟩ = some (.int .i64 (l[i] : Nat)) := by
 obtain ⟨b6, o6, e, hl, hc⟩ := h.1.1.2 (by omega)
 have hi' : i < l.length := by have := h.1.1.1; rw [ofNats_len] at this; omega
 have h1 := hc i hi
 rw [gi_ofNats hi'] at h1
 exact ⟨b6, o6, e, hl, hi', h1⟩
end
theorem compD_any (x y : D) (x0 x1 x2 y0 y1 y2 z0 z1 z2 : Int) (hx : x.1 = ⟨x0, x1, x2⟩) (hy : y.1 = ⟨y0, y1, y2⟩) (hz : (comp x y).1 = ⟨z0, z1, z2⟩) (w : World) :
   Calls Tryz.prog 85 #[.agg #[.int .i64 x0, .int .i64 x1, .int .i64 x2], .agg #[.int .i64 y0, .int .i64 y1, .int .i64 y2]] w fun e w' => e = .returned (.agg #[.int .i64 z0, .int .i64 z1, .int .i64 z2]) ∧ Below w.heap.size w w' := by
 have h := compose_any x0 x1 x2 y0 y1 y2 w
 have hm : (comp x y).1 = Xf.compose x.1 y.1 := rfl
 rw [hx, hy, hz] at hm
 rw [← hm] at h
 exact h
end Go.Proofs.YtincpmdldpakkaaGreatDoor
namespace Go.Df
open Go.RowKit
namespace Iv
open Sp
structure Tw (p : Vb) (N f : Nat) (w : World) (go : Nat) (rw rc : Nat → Nat) (T : Nat → Nat → Nat → D) : Prop where
 glt : go < w.heap.size
 row : ∀ n, n < N → w.cell? ⟨go, n, none⟩ = some (.slice (some ⟨rw n, 0, none⟩) (f * f) (rc n))
 cell : ∀ n a d, n < N → a < f → d < f → w.cell? ⟨rw n, (a * f + d) * 3, none⟩ = some (.int .i64 (T n a d).1.k) ∧ w.cell? ⟨rw n, (a * f + d) * 3 + 1, none⟩ = some (.int .i64 (T n a d).1.b) ∧ w.cell? ⟨rw n, (a * f + d) * 3 + 2, none⟩ = some (.int .i64 (T n a d).1.c)
 fr : ∀ n i, n < N → w.frozen? ⟨rw n, i, none⟩ = false
 lt : ∀ n, n < N → rw n < w.heap.size
 inj : ∀ n m, n < N → m < N → rw n = rw m → n = m
 ne : ∀ n, n < N → rw n ≠ go
 top : ∀ n a d, ¬ (n < N ∧ a < f ∧ d < f) → T n a d = Iv.top
section
variable {p : Vb} {N f : Nat} {w w' : World} {go : Nat} {rw rc : Nat → Nat} {T : Nat → Nat → Nat → D}
theorem Tw.kept (h : Tw p N f w go rw rc T) {X : List Nat} (hk : Kept X w w') (hg : go ∉ X) (hr : ∀ n, n < N → rw n ∉ X) : Tw p N f w' go rw rc T :=
 ⟨Nat.lt_of_lt_of_le h.glt hk.size, fun n hn => (hk.cell go n h.glt hg).trans (h.row n hn), fun n a d hn ha hd => ⟨(hk.cell _ _ (h.lt n hn) (hr n hn)).trans (h.cell n a d hn ha hd).1, (hk.cell _ _ (h.lt n hn) (hr n hn)).trans (h.cell n a d hn ha hd).2.1, (hk.cell _ _ (h.lt n hn) (hr n hn)).trans (h.cell n a d hn ha hd).2.2⟩,
   fun n i hn => (hk.frozen _ _ (h.lt n hn) (hr n hn)).trans (h.fr n i hn), fun n hn => Nat.lt_of_lt_of_le (h.lt n hn) hk.size, h.inj, h.ne, h.top⟩
theorem Tw.keep (h : Tw p N f w go rw rc T) (hk : Kept [] w w') : Tw p N f w' go rw rc T := h.kept hk (by simp) (by simp)
theorem idx_lt {f a d : Nat} (ha : a < f) (hd : d < f) : a * f + d < f * f := by
 have h1 : (a + 1) * f ≤ f * f := Nat.mul_le_mul_right f ha
 rw [Nat.add_mul, Nat.one_mul] at h1
 omega
theorem idx_inj {f a d a' d' : Nat} (hd : d < f) (hd' : d' < f) (h : a * f + d = a' * f + d') : a = a' ∧ d = d' := by
 have h1 : a = a' := by
   rcases Nat.lt_trichotomy a a' with h1 | h1 | h1
   · have h2 : (a + 1) * f ≤ a' * f := Nat.mul_le_mul_right f h1
     rw [Nat.add_mul, Nat.one_mul] at h2
     omega
   · exact h1
   · have h2 : (a' + 1) * f ≤ a * f := Nat.mul_le_mul_right f h1
     rw [Nat.add_mul, Nat.one_mul] at h2
     omega
 subst h1
 exact ⟨rfl, by omega⟩
theorem Tw.put (h : Tw p N f w go rw rc T) {n a d : Nat} (hn : n < N) (ha : a < f) (hd : d < f) (y : D) {i : Nat} (hi : i = (a * f + d) * 3) : Tw p N f (((w.setCell ⟨rw n, i, none⟩ (.int .i64 y.1.k)).setCell ⟨rw n, i + 1, none⟩ (.int .i64 y.1.b)).setCell ⟨rw n, i + 2, none⟩ (.int .i64 y.1.c)) go rw rc (tput T n a d y) := by
 subst hi
 have hne := h.ne n hn
 have hc := h.cell n a d hn ha hd
 refine ⟨by simpa [World.setCell] using h.glt, fun m hm => ?_, fun m a' d' hm ha' hd' => ?_, fun m i hm => by simpa using h.fr m i hm, fun m hm => by simpa [World.setCell] using h.lt m hm, h.inj, h.ne, fun m a' d' hno => ?_⟩
 · rw [set_other (.inl hne), set_other (.inl hne), set_other (.inl hne)]
   exact h.row m hm
 · by_cases e : m = n ∧ a' = a ∧ d' = d
   · obtain ⟨rfl, rfl, rfl⟩ := e
     rw [tput_at]
     have s1 := set_same (v := .int .i64 y.1.k) hc.1
     have c2 : (w.setCell ⟨rw m, (a' * f + d') * 3, none⟩ (.int .i64 y.1.k)).cell? ⟨rw m, (a' * f + d') * 3 + 1, none⟩ = some (.int .i64 (T m a' d').1.b) := (set_other (.inr (by omega))).trans hc.2.1
     have s2 := set_same (v := .int .i64 y.1.b) c2
     have c3 : ((w.setCell ⟨rw m, (a' * f + d') * 3, none⟩ (.int .i64 y.1.k)).setCell ⟨rw m, (a' * f + d') * 3 + 1, none⟩ (.int .i64 y.1.b)).cell? ⟨rw m, (a' * f + d') * 3 + 2, none⟩ = some (.int .i64 (T m a' d').1.c) := (set_other (.inr (by omega))).trans ((set_other (.inr (by omega))).trans hc.2.2)
     have s3 := set_same (v := .int .i64 y.1.c) c3
     refine ⟨?_, ?_, s3⟩
     · rw [set_other (.inr (by omega)), set_other (.inr (by omega))]; exact s1
     · rw [set_other (.inr (by omega))]; exact s2
   · rw [tput_ne y e]
     have hdis : rw n ≠ rw m ∨ (a * f + d ≠ a' * f + d') := by
       by_cases e1 : m = n
       · right
         intro e2
         obtain ⟨h1, h2⟩ := idx_inj hd hd' e2
         exact e ⟨e1, h1.symm, h2.symm⟩
       · left; exact fun e2 => e1 (h.inj n m hn hm e2).symm
     have key : ∀ (w : World) (v : Value) (x z : Nat), x < 3 → z < 3 → (w.setCell ⟨rw n, (a * f + d) * 3 + x, none⟩ v).cell? ⟨rw m, (a' * f + d') * 3 + z, none⟩ = w.cell? ⟨rw m, (a' * f + d') * 3 + z, none⟩ := fun w v x z hx hz => set_other (hdis.imp id (fun h9 => by omega))
     have hcm := h.cell m a' d' hm ha' hd'
     refine ⟨?_, ?_, ?_⟩
     · have := (key _ (.int .i64 y.1.c) 2 0 (by omega) (by omega)).trans ((key _ (.int .i64 y.1.b) 1 0 (by omega) (by omega)).trans (key w (.int .i64 y.1.k) 0 0 (by omega) (by omega)))
       exact this.trans hcm.1
     · have := (key _ (.int .i64 y.1.c) 2 1 (by omega) (by omega)).trans ((key _ (.int .i64 y.1.b) 1 1 (by omega) (by omega)).trans (key w (.int .i64 y.1.k) 0 1 (by omega) (by omega)))
       exact this.trans hcm.2.1
     · have := (key _ (.int .i64 y.1.c) 2 2 (by omega) (by omega)).trans ((key _ (.int .i64 y.1.b) 1 2 (by omega) (by omega)).trans (key w (.int .i64 y.1.k) 0 2 (by omega) (by omega)))
       exact this.trans hcm.2.2
 · rw [tput_ne y (fun e => hno ⟨by omega, by omega, by omega⟩)]
   exact h.top m a' d' hno
end
end Iv
end Go.Df
namespace Go.Proofs.YtincpmdldpakkaaGreatDoor
open Go.RowKit Go.Df Go.Df.Iv Go.Df.Sp
attribute [local go_sem ↓] Go.wp_at_zero Go.wp_at_succ
set_option maxRecDepth 100000 in
set_option maxHeartbeats 4000000 in
theorem rat_any {p : Vb} {N f go cN n1 c1 n2 c2 n3 c3 n4 c4 : Nat} {A1 A2 A3 A4 : Option Addr} {mn : Int} {rw rc : Nat → Nat} {T : Nat → Nat → Nat → D} (w : World) (a n d : Nat) (hT : Tw p N f w go rw rc T) (hn : n < N) (ha : a < f) (hd : d < f) (hf : f ≤ 1024) {y0 y1 y2 : Int} (hy : (T n a d).1 = ⟨y0, y1, y2⟩) :
   Calls Tryz.prog 57 #[.agg #[.slice A1 n1 c1, .slice A2 n2 c2, .int .i64 mn, .int .i64 (f : Nat), .slice A3 n3 c3, .slice A4 n4 c4, .slice (some ⟨go, 0, none⟩) N cN], .int .i64 a, .int .i64 n, .int .i64 d] w fun e w' => e = .returned (.agg #[.int .i64 y0, .int .i64 y1, .int .i64 y2]) ∧ Below w.heap.size w w' := by
 have hrow := hT.row n hn
 have hcell := hT.cell n a d hn ha hd
 rw [hy] at hcell
 have c0 := hcell.1
 have cc1 := hcell.2.1
 have cc2 := hcell.2.2
 have hgl := hT.glt
 have hrl := hT.lt n hn
 have hix := idx_lt ha hd
 obtain ⟨ix, hixe⟩ : ∃ ix, ix = a * f + d := ⟨_, rfl⟩
 rw [← hixe] at c0 cc1 cc2 hix
 obtain ⟨r, hr⟩ : ∃ r, rw n = r := ⟨_, rfl⟩
 rw [hr] at hrow c0 cc1 cc2 hrl
 obtain ⟨rcn, hrc⟩ : ∃ z, rc n = z := ⟨_, rfl⟩
 rw [hrc] at hrow
 obtain ⟨ff, hff⟩ : ∃ z, f * f = z := ⟨_, rfl⟩
 rw [hff] at hrow hix
 obtain ⟨m, hm⟩ : ∃ m, a * f = m := ⟨_, rfl⟩
 have hmul : m ≤ 1024 * 1024 := by rw [← hm]; exact Nat.mul_le_mul (by omega) hf
 rw [hm] at hixe
 have wm : (a : Int) * (f : Int) = (m : Int) := by rw [← hm]; simp
 have hn' : (n : Int) < (N : Int) := by omega
 have hix' : (ix : Int) < (ff : Int) := by omega
 have e1 : IntKind.i64.wrap ((a : Int) * (f : Int)) = (m : Int) := by rw [wm]; exact IntWalk.i64_in _ (by omega)
 have e2 : IntKind.i64.wrap ((m : Int) + (d : Int)) = (ix : Int) := by rw [hixe, IntWalk.i64_in _ (by omega)]; omega
 clear hT hcell hy hixe hr hrc hff hm wm hmul
 go_enter Tryz.func57, Tryz.ntmps57
 go_upto_region 1 with fail
 refine wp_named (fun W => ∃ b0 b1, w.heap.size = b0 ∧ w.heap.size + 1 = b1 ∧ Blk W b0 [.slice A1 n1 c1, .slice A2 n2 c2, .int .i64 mn, .int .i64 (f : Nat), .slice A3 n3 c3, .slice A4 n4 c4, .slice (some ⟨go, 0, none⟩) N cN] ∧ Blk W b1 [.int .i64 0, .int .i64 0, .int .i64 0] ∧ Below w.heap.size w W) ⟨_, _, rfl, rfl, ?_, ?_, ?_⟩ ?_
 · exact (Blk.new _ _ _ _ (by first | rfl | simp)).alloc _
 · exact kbn
 · go_grown
 rintro W ⟨b0, b1, e0, e1, B0, B1, hB⟩
 rw [e1, e0]
 have G0 : w.heap.size ≤ b0 := by omega
 have n01 : b0 ≠ b1 := by omega
 have G1 : w.heap.size ≤ b1 := by omega
 have n10 : b1 ≠ b0 := by omega
 clear e0 e1
 have ⟨L0, C0, F0⟩ := B0
 have ⟨L1, C1, F1⟩ := B1
 have hkW : Kept [] w W := (Kept.refl _ _).call hB
 have hrow' := (hkW.cell go n hgl (by simp)).trans hrow
 have c0' := (hkW.cell r _ hrl (by simp)).trans c0
 have c1' := (hkW.cell r _ hrl (by simp)).trans cc1
 have c2' := (hkW.cell r _ hrl (by simp)).trans cc2
 have hglW : go < W.heap.size := Nat.lt_of_lt_of_le hgl hkW.size
 have hrlW : r < W.heap.size := Nat.lt_of_lt_of_le hrl hkW.size
 clear hrow c0 cc1 cc2
 refine wp_region_E 14 (fun w' => SX0 W w') (by kernel_rfl) (by (exact kp0)) (fun hHeld => ?_)
 refine WE_tk 0 ?_
 refine WE_tk 1 ?_
 refine WE_tk 2 ?_
 refine WE_tk 3 ?_
 refine WE_tk 4 ?_
 refine WE_tk 5 ?_
 refine WE_tk 6 ?_
 refine WE_tk 7 ?_
 refine WE_tk 8 ?_
 refine WE_tk 9 ?_
 refine WE_tk 10 ?_
 refine WE_tk 11 ?_
 refine WE_tk 12 ?_
 refine WE_tk 13 ?_
 refine WE_last rfl (by kernel_rfl) (fun K hK => ?_)
 go_simp
 refine hK.out _ _ ?_
 clear hK K
 go_wp2_with fail
 refine bodyPost_ret (by simp [results, Tryz.results57, go_sem, *]; rfl) rfl ?_
 refine ⟨rfl, Kept.below (X := [b1]) hB hB.size (by simp; omega) ?_⟩
 exact ((((Kept.refl [b1] W).drew.set b1 0 _ (.inl (by simp))).set b1 1 _ (.inl (by simp))).set b1 2 _ (.inl (by simp)))
end Go.Proofs.YtincpmdldpakkaaGreatDoor
namespace Go.Proofs.YtincpmdldpakkaaGreatDoor
open Go.RowKit Go.Df
attribute [local go_sem ↓] Go.wp_at_zero Go.wp_at_succ
set_option maxHeartbeats 1000000 in
theorem rcompose1_any (b c k' b' c' : Int) (w : World) (h0 : (k' == 0) = false) (h1 : (k' == 1) = false) (h4 : (k' == 4) = false) :
   Calls Tryz.prog 163 #[.agg #[.int .i64 1, .int .i64 b, .int .i64 c], .agg #[.int .i64 k', .int .i64 b', .int .i64 c']] w fun e w' => e = .returned (.agg #[.int .i64 (Xf.rcompose ⟨1, b, c⟩ ⟨k', b', c'⟩).k, .int .i64 (Xf.rcompose ⟨1, b, c⟩ ⟨k', b', c'⟩).b, .int .i64 (Xf.rcompose ⟨1, b, c⟩ ⟨k', b', c'⟩).c]) ∧ Below w.heap.size w w' := by
 go_enter Tryz.func163, Tryz.ntmps163
 go_upto_region 1 with fail
 refine wp_named (fun W => ∃ b0 b1 b2, w.heap.size = b0 ∧ w.heap.size + 1 = b1 ∧ w.heap.size + 1 + 1 = b2 ∧ Blk W b0 [.int .i64 1, .int .i64 b, .int .i64 c] ∧ Blk W b1 [.int .i64 k', .int .i64 b', .int .i64 c'] ∧ Blk W b2 [.int .i64 0, .int .i64 0, .int .i64 0] ∧ Below w.heap.size w W) ⟨_, _, _, rfl, rfl, rfl, ?_, ?_, ?_, ?_⟩ ?_
 · exact ((Blk.new _ _ _ _ (by simp)).alloc _).alloc _
 · exact (Blk.new _ _ _ _ (by simp)).alloc _
 · exact Blk.new _ _ _ _ (by simp)
 · go_grown
 rintro W ⟨b0, b1, b2, e0, e1, e2, B0, B1, B2, hB⟩
 rw [e2, e1, e0]
 have G0 : w.heap.size ≤ b0 := by omega
 have n01 : b0 ≠ b1 := by omega
 have n02 : b0 ≠ b2 := by omega
 have G1 : w.heap.size ≤ b1 := by omega
 have n10 : b1 ≠ b0 := by omega
 have n12 : b1 ≠ b2 := by omega
 have G2 : w.heap.size ≤ b2 := by omega
 have n20 : b2 ≠ b0 := by omega
 have n21 : b2 ≠ b1 := by omega
 clear e0 e1 e2
 have ⟨L0, C0, F0⟩ := B0
 have ⟨L1, C1, F1⟩ := B1
 have ⟨L2, C2, F2⟩ := B2
 go_upto_region 8 with fail
 go_cut [5] (fun s wx => ∃ g : Nat, s = .pointer (some ⟨g, 0, none⟩) ∧ Blk wx g [.int .i64 (Xf.rapply ⟨k', b', c'⟩ ⟨1, c⟩).k, .int .i64 (Xf.rapply ⟨k', b', c'⟩ ⟨1, c⟩).n] ∧ Kept [] W wx ∧ W.heap.size ≤ g)
 case first =>
   go_region_held3 (fun w' => SX0 W w') (exact kp0)
     (first | (go_at_call 176; refine (rconst_any _ _).mono ?_; rintro e w1 ⟨rfl, hb1⟩; obtain ⟨hc1, hf1, hg1⟩ := bcell hb1; have hz1 := hb1.size; try simp at hz1) | (go_at_call 119; refine (rapply_any _ _ _ _ _ _).mono ?_; rintro e w2 ⟨rfl, hb2⟩; obtain ⟨hc2, hf2, hg2⟩ := bcell hb2; have hz2 := hb2.size; try simp at hz2))
   all_goals
     go_wp2_with fail
     go_meet
     refine ⟨_, rfl, ?_, ?_, ?_⟩
     · (exact kpb)
     · (exact kpt0)
     · first | (simp; done) | omega | (simp; omega)
 case rest =>
   obtain ⟨g, rfl, ⟨Lg, Cg, Fg⟩, kc, Hg⟩ := hcut
   have hBc := kc.below hB hB.size (by simp)
   have ⟨L0', C0', F0'⟩ := kc.blk (by simp) B0
   have ⟨L1', C1', F1'⟩ := kc.blk (by simp) B1
   have ⟨L2', C2', F2'⟩ := kc.blk (by simp) B2
   have hne : b2 ≠ g := by omega
   go_wp2_with fail
   all_goals
     refine bodyPost_ret (by simp [results, Tryz.results163, go_sem, *]; rfl) rfl ?_
     refine ⟨ret_x ?_, by go_grown⟩
     clear C0 C1 C2 C0' C1' C2' Cg F0 F1 F2 F0' F1' F2' Fg
     simp_all [Xf.rcompose]
set_option maxHeartbeats 1000000 in
theorem rcompose3_any (k b c k' b' c' : Int) (w : World) (h0 : (k' == 0) = false) (h1 : (k' == 1) = false) (h4 : (k' == 4) = false) (g0 : (k == 0) = false) (g4 : (k == 4) = false) (g1 : (k == 1) = false) (g2 : (k == 2) = false) :
   Calls Tryz.prog 163 #[.agg #[.int .i64 k, .int .i64 b, .int .i64 c], .agg #[.int .i64 k', .int .i64 b', .int .i64 c']] w fun e w' => e = .returned (.agg #[.int .i64 (Xf.rcompose ⟨k, b, c⟩ ⟨k', b', c'⟩).k, .int .i64 (Xf.rcompose ⟨k, b, c⟩ ⟨k', b', c'⟩).b, .int .i64 (Xf.rcompose ⟨k, b, c⟩ ⟨k', b', c'⟩).c]) ∧ Below w.heap.size w w' := by
 go_enter Tryz.func163, Tryz.ntmps163
 go_upto_region 1 with fail
 refine wp_named (fun W => ∃ b0 b1 b2, w.heap.size = b0 ∧ w.heap.size + 1 = b1 ∧ w.heap.size + 1 + 1 = b2 ∧ Blk W b0 [.int .i64 k, .int .i64 b, .int .i64 c] ∧ Blk W b1 [.int .i64 k', .int .i64 b', .int .i64 c'] ∧ Blk W b2 [.int .i64 0, .int .i64 0, .int .i64 0] ∧ Below w.heap.size w W) ⟨_, _, _, rfl, rfl, rfl, ?_, ?_, ?_, ?_⟩ ?_
 · exact ((Blk.new _ _ _ _ (by simp)).alloc _).alloc _
 · exact (Blk.new _ _ _ _ (by simp)).alloc _
 · exact Blk.new _ _ _ _ (by simp)
 · go_grown
 rintro W ⟨b0, b1, b2, e0, e1, e2, B0, B1, B2, hB⟩
 rw [e2, e1, e0]
 have G0 : w.heap.size ≤ b0 := by omega
 have n01 : b0 ≠ b1 := by omega
 have n02 : b0 ≠ b2 := by omega
 have G1 : w.heap.size ≤ b1 := by omega
 have n10 : b1 ≠ b0 := by omega
 have n12 : b1 ≠ b2 := by omega
 have G2 : w.heap.size ≤ b2 := by omega
 have n20 : b2 ≠ b0 := by omega
 have n21 : b2 ≠ b1 := by omega
 clear e0 e1 e2
 have ⟨L0, C0, F0⟩ := B0
 have ⟨L1, C1, F1⟩ := B1
 have ⟨L2, C2, F2⟩ := B2
 go_upto_region 15 with fail
 go_cut [6] (fun s wx => ∃ g : Nat, s = .pointer (some ⟨g, 0, none⟩) ∧ Blk wx g [.int .i64 (Xf.rapply ⟨k', b', c'⟩ ⟨1, c⟩).k, .int .i64 (Xf.rapply ⟨k', b', c'⟩ ⟨1, c⟩).n] ∧ Kept [] W wx ∧ W.heap.size ≤ g)
 case first =>
   go_region_held3 (fun w' => SX0 W w') (exact kp0)
     (first | (go_at_call 176; refine (rconst_any _ _).mono ?_; rintro e w1 ⟨rfl, hb1⟩; obtain ⟨hc1, hf1, hg1⟩ := bcell hb1; have hz1 := hb1.size; try simp at hz1) | (go_at_call 119; refine (rapply_any _ _ _ _ _ _).mono ?_; rintro e w2 ⟨rfl, hb2⟩; obtain ⟨hc2, hf2, hg2⟩ := bcell hb2; have hz2 := hb2.size; try simp at hz2))
   all_goals
     go_wp2_with fail
     go_meet
     refine ⟨_, rfl, ?_, ?_, ?_⟩
     · (exact kpb)
     · (exact kpt0)
     · first | (simp; done) | omega | (simp; omega)
 case rest =>
   obtain ⟨g, rfl, ⟨Lg, Cg, Fg⟩, kc, Hg⟩ := hcut
   have hBc := kc.below hB hB.size (by simp)
   have ⟨L0', C0', F0'⟩ := kc.blk (by simp) B0
   have ⟨L1', C1', F1'⟩ := kc.blk (by simp) B1
   have ⟨L2', C2', F2'⟩ := kc.blk (by simp) B2
   have hne : b2 ≠ g := by omega
   go_wp2_with fail
   all_goals
     refine bodyPost_ret (by simp [results, Tryz.results163, go_sem, *]; rfl) rfl ?_
     refine ⟨ret_x ?_, by go_grown⟩
     clear C0 C1 C2 C0' C1' C2' Cg F0 F1 F2 F0' F1' F2' Fg
     simp_all [Xf.rcompose]
set_option maxHeartbeats 1000000 in
theorem rcompose_any (k b c k' b' c' : Int) (w : World) :
   Calls Tryz.prog 163 #[.agg #[.int .i64 k, .int .i64 b, .int .i64 c], .agg #[.int .i64 k', .int .i64 b', .int .i64 c']] w fun e w' => e = .returned (.agg #[.int .i64 (Xf.rcompose ⟨k, b, c⟩ ⟨k', b', c'⟩).k, .int .i64 (Xf.rcompose ⟨k, b, c⟩ ⟨k', b', c'⟩).b, .int .i64 (Xf.rcompose ⟨k, b, c⟩ ⟨k', b', c'⟩).c]) ∧ Below w.heap.size w w' := by
 by_cases t1 : (k == 0 || k' == 0 || k' == 1 || k' == 4 || k == 4 || k == 2) = true
 · go_enter Tryz.func163, Tryz.ntmps163
   go_wp2_with fail
   all_goals first | (go_returns; exact ⟨ret_x (by simp_all [Xf.rcompose]), by go_grown⟩) | (exfalso; simp_all; done)
 · simp at t1
   by_cases h1 : k = 1
   · subst h1
     exact rcompose1_any b c k' b' c' w (by simp; omega) (by simp; omega) (by simp; omega)
   · exact rcompose3_any k b c k' b' c' w (by simp; omega) (by simp; omega) (by simp; omega) (by simp; omega) (by simp; omega) (by simp; omega) (by simp; omega)
end Go.Proofs.YtincpmdldpakkaaGreatDoor
namespace Go.Proofs.YtincpmdldpakkaaGreatDoor
open Go.RowKit Go.Df Go.Df.Iv Go.Df.Sp
attribute [local go_sem ↓] Go.wp_at_zero Go.wp_at_succ
theorem rmeetD_any (x y : D) (x0 x1 x2 y0 y1 y2 z0 z1 z2 : Int) (hx : x.1 = ⟨x0, x1, x2⟩) (hy : y.1 = ⟨y0, y1, y2⟩) (hz : (meet x y).1 = ⟨z0, z1, z2⟩) (w : World) :
   Calls Tryz.prog 162 #[.agg #[.int .i64 x0, .int .i64 x1, .int .i64 x2], .agg #[.int .i64 y0, .int .i64 y1, .int .i64 y2]] w fun e w' => e = .returned (.agg #[.int .i64 z0, .int .i64 z1, .int .i64 z2]) ∧ Below w.heap.size w w' := by
 have h := rmeet_any x0 x1 x2 y0 y1 y2 w
 have hm : (meet x y).1 = Xf.rmeet x.1 y.1 := (Xf.meet_eq x.2.1 y.2.1).symm
 rw [hx, hy, hz] at hm
 rw [← hm] at h
 exact h
theorem rcompD_any (x y : D) (x0 x1 x2 y0 y1 y2 z0 z1 z2 : Int) (hx : x.1 = ⟨x0, x1, x2⟩) (hy : y.1 = ⟨y0, y1, y2⟩) (hz : (comp x y).1 = ⟨z0, z1, z2⟩) (w : World) :
   Calls Tryz.prog 163 #[.agg #[.int .i64 x0, .int .i64 x1, .int .i64 x2], .agg #[.int .i64 y0, .int .i64 y1, .int .i64 y2]] w fun e w' => e = .returned (.agg #[.int .i64 z0, .int .i64 z1, .int .i64 z2]) ∧ Below w.heap.size w w' := by
 have h := rcompose_any x0 x1 x2 y0 y1 y2 w
 have hm : (comp x y).1 = Xf.rcompose x.1 y.1 := (Xf.compose_eq x.2.1 y.2.1).symm
 rw [hx, hy, hz] at hm
 rw [← hm] at h
 exact h
theorem rshift_any (w : World) : Calls Tryz.prog 103 #[] w fun e w' => e = .returned (.agg #[.int .i64 2, .int .i64 0, .int .i64 0]) ∧ Below w.heap.size w w' := by
 go_enter Tryz.func103, Tryz.ntmps103
 go_wp2
 go_returns
 exact ⟨rfl, by go_grown⟩
set_option maxRecDepth 100000 in
set_option maxHeartbeats 4000000 in
theorem rinc_any {p : Vb} {N f go cN n1 c1 n2 c2 n3 c3 n4 c4 : Nat} {A1 A2 A3 A4 : Option Addr} {mn : Int} {rw rc : Nat → Nat} {T : Nat → Nat → Nat → D} (w : World) (a n d : Nat) (x : D) (hT : Tw p N f w go rw rc T) (hn : n < N) (ha : a < f) (hd : d < f) (hf : f ≤ 1024) {x0 x1 x2 : Int} (hx : x.1 = ⟨x0, x1, x2⟩) :
   Calls Tryz.prog 102 #[.agg #[.slice A1 n1 c1, .slice A2 n2 c2, .int .i64 mn, .int .i64 (f : Nat), .slice A3 n3 c3, .slice A4 n4 c4, .slice (some ⟨go, 0, none⟩) N cN], .int .i64 a, .int .i64 n, .int .i64 d, .agg #[.int .i64 x0, .int .i64 x1, .int .i64 x2]] w fun e w' => e = .returned (.bool (!decide (meet (T n a d) x = T n a d))) ∧ Tw p N f w' go rw rc (tput T n a d (meet (T n a d) x)) ∧ Kept [rw n] w w' := by
 obtain ⟨bb, hbb⟩ : ∃ bb, (!decide (meet (T n a d) x = T n a d)) = bb := ⟨_, rfl⟩
 rw [hbb]
 obtain ⟨y0, hy0⟩ : ∃ v, (T n a d).1.k = v := ⟨_, rfl⟩
 obtain ⟨y1, hy1⟩ : ∃ v, (T n a d).1.b = v := ⟨_, rfl⟩
 obtain ⟨y2, hy2⟩ : ∃ v, (T n a d).1.c = v := ⟨_, rfl⟩
 obtain ⟨z0, hz0⟩ : ∃ v, (meet (T n a d) x).1.k = v := ⟨_, rfl⟩
 obtain ⟨z1, hz1⟩ : ∃ v, (meet (T n a d) x).1.b = v := ⟨_, rfl⟩
 obtain ⟨z2, hz2⟩ : ∃ v, (meet (T n a d) x).1.c = v := ⟨_, rfl⟩
 have eY : (T n a d).1 = ⟨y0, y1, y2⟩ := by rw [← hy0, ← hy1, ← hy2]
 have eZ : (meet (T n a d) x).1 = ⟨z0, z1, z2⟩ := by rw [← hz0, ← hz1, ← hz2]
 have HEZ := Lib.hid eZ
 have HBB : Hid (bb = !(decide (z0 = y0 ∧ z1 = y1 ∧ z2 = y2))) := by
   show _ = _
   rw [← hbb]
   congr 1
   refine decide_eq_decide.2 ⟨fun h => ?_, ?_⟩
   · rw [h, eY] at eZ
     injection eZ with e1 e2 e3
     exact ⟨e1.symm, e2.symm, e3.symm⟩
   · rintro ⟨rfl, rfl, rfl⟩
     exact Subtype.ext (eZ.trans eY.symm)
 have HAT : Hid (∀ w9, Kept [] w w9 → Calls Tryz.prog 57 #[.agg #[.slice A1 n1 c1, .slice A2 n2 c2, .int .i64 mn, .int .i64 (f : Nat), .slice A3 n3 c3, .slice A4 n4 c4, .slice (some ⟨go, 0, none⟩) N cN], .int .i64 a, .int .i64 n, .int .i64 d] w9 fun e w' => e = .returned (.agg #[.int .i64 y0, .int .i64 y1, .int .i64 y2]) ∧ Below w9.heap.size w9 w') := fun w9 hk9 => rat_any w9 a n d (hT.keep hk9) hn ha hd hf eY
 have HME : Hid (∀ w9, Calls Tryz.prog 162 #[.agg #[.int .i64 y0, .int .i64 y1, .int .i64 y2], .agg #[.int .i64 x0, .int .i64 x1, .int .i64 x2]] w9 fun e w' => e = .returned (.agg #[.int .i64 z0, .int .i64 z1, .int .i64 z2]) ∧ Below w9.heap.size w9 w') := fun w9 => rmeetD_any _ _ _ _ _ _ _ _ _ _ _ eY hx eZ w9
 have HT := Lib.hid hT
 have hrow := hT.row n hn
 have hgl := hT.glt
 have hrl := hT.lt n hn
 have hfr := hT.fr n
 have hcell := hT.cell n a d hn ha hd
 have hix := idx_lt ha hd
 obtain ⟨ix, hixe⟩ : ∃ ix, ix = a * f + d := ⟨_, rfl⟩
 have HIX := Lib.hid hixe
 rw [← hixe] at hix
 obtain ⟨r, hr⟩ : ∃ r, rw n = r := ⟨_, rfl⟩
 rw [hr] at hrow hrl hfr ⊢
 have HR := Lib.hid hr
 obtain ⟨rcn, hrc⟩ : ∃ z, rc n = z := ⟨_, rfl⟩
 rw [hrc] at hrow
 obtain ⟨ff, hff⟩ : ∃ z, f * f = z := ⟨_, rfl⟩
 rw [hff] at hrow hix
 obtain ⟨m, hm⟩ : ∃ m, a * f = m := ⟨_, rfl⟩
 have hmul : m ≤ 1024 * 1024 := by rw [← hm]; exact Nat.mul_le_mul (by omega) hf
 rw [hm] at hixe
 have wm : (a : Int) * (f : Int) = (m : Int) := by rw [← hm]; simp
 have hn' : (n : Int) < (N : Int) := by omega
 have hix' : (ix : Int) < (ff : Int) := by omega
 have e1 : IntKind.i64.wrap ((a : Int) * (f : Int)) = (m : Int) := by rw [wm]; exact IntWalk.i64_in _ (by omega)
 have e2 : IntKind.i64.wrap ((m : Int) + (d : Int)) = (ix : Int) := by rw [hixe, IntWalk.i64_in _ (by omega)]; omega
 have cA := (hcell).1
 have cB := (hcell).2.1
 have cC := (hcell).2.2
 rw [hr, ← HIX.out] at cA cB cC
 have hfr0 := hfr (ix * 3) hn
 have hfr1 := hfr (ix * 3 + 1) hn
 have hfr2 := hfr (ix * 3 + 2) hn
 clear hT hcell hbb hy0 hy1 hy2 hz0 hz1 hz2 eY eZ hx hixe hr hrc hff hm wm hmul hfr
 go_enter Tryz.func102, Tryz.ntmps102
 go_upto_region 1 with fail
 refine wp_named (fun W => ∃ b0 b1, w.heap.size = b0 ∧ w.heap.size + 1 = b1 ∧ Blk W b0 [.slice A1 n1 c1, .slice A2 n2 c2, .int .i64 mn, .int .i64 (f : Nat), .slice A3 n3 c3, .slice A4 n4 c4, .slice (some ⟨go, 0, none⟩) N cN] ∧ Blk W b1 [.int .i64 x0, .int .i64 x1, .int .i64 x2] ∧ Below w.heap.size w W) ⟨_, _, rfl, rfl, ?_, ?_, ?_⟩ ?_
 · exact (Blk.new _ _ _ _ (by first | rfl | simp)).alloc _
 · exact kbn
 · go_grown
 rintro W ⟨b0, b1, e0, e1, B0, B1, hB⟩
 rw [e1, e0]
 have G0 : w.heap.size ≤ b0 := by omega
 have n01 : b0 ≠ b1 := by omega
 have G1 : w.heap.size ≤ b1 := by omega
 have n10 : b1 ≠ b0 := by omega
 clear e0 e1
 have ⟨L0, C0, F0⟩ := B0
 have ⟨L1, C1, F1⟩ := B1
 have hkW : Kept [] w W := (Kept.refl _ _).call hB
 go_upto_region 2 with (go_at_call 57; refine (HAT.out _ hkW).mono ?_; rintro e w2 ⟨rfl, hb2⟩)
 refine wp_named (fun V => ∃ g, w2.heap.size = g ∧ Blk V g [.int .i64 y0, .int .i64 y1, .int .i64 y2] ∧ Kept [] w2 V) ⟨_, rfl, Blk.new _ _ _ _ rfl, (Kept.refl _ _).alloc _⟩ ?_
 rintro V2 ⟨b2, eb2, B2, hkV2⟩
 rw [eb2]
 have hk2 : Kept [] W V2 := keptTrans ((Kept.refl _ _).call hb2) hkV2
 have ⟨L2, C2, F2⟩ := B2
 have B0' := hk2.blk (by simp) B0
 have ⟨L0', C0', F0'⟩ := B0'
 have ⟨L1', C1', F1'⟩ := hk2.blk (by simp) B1
 clear C0 F0 C1 F1
 go_upto_region 3 with (go_at_call 162; refine (HME.out _).mono ?_; rintro e w3 ⟨rfl, hb3⟩)
 refine wp_named (fun V => ∃ g, w3.heap.size = g ∧ Blk V g [.int .i64 z0, .int .i64 z1, .int .i64 z2] ∧ Kept [] w3 V) ⟨_, rfl, Blk.new _ _ _ _ rfl, (Kept.refl _ _).alloc _⟩ ?_
 rintro V3 ⟨b3, eb3, B3, hkV3⟩
 rw [eb3]
 have hk3 : Kept [] V2 V3 := keptTrans ((Kept.refl _ _).call hb3) hkV3
 have hkw : Kept [] w V3 := keptTrans (keptTrans hkW hk2) hk3
 have ⟨L3, C3, F3⟩ := B3
 have B2' := hk3.blk (by simp) B2
 have ⟨L2', C2', F2'⟩ := B2'
 have ⟨L0'', C0'', F0''⟩ := hk3.blk (by simp) B0'
 have hrow' := (hkw.cell go n hgl (by simp)).trans hrow
 have cA' := (hkw.cell r _ hrl (by simp)).trans cA
 have cB' := (hkw.cell r _ hrl (by simp)).trans cB
 have cC' := (hkw.cell r _ hrl (by simp)).trans cC
 have fA := (hkw.frozen r _ hrl (by simp)).trans hfr0
 have fB := (hkw.frozen r _ hrl (by simp)).trans hfr1
 have fC := (hkw.frozen r _ hrl (by simp)).trans hfr2
 have hglV : go < V3.heap.size := Nat.lt_of_lt_of_le hgl hkw.size
 have hrlV : r < V3.heap.size := Nat.lt_of_lt_of_le hrl hkw.size
 have HTV := Lib.hid (HT.out.keep hkw)
 clear C2 F2 C0' F0' C1' F1' hrow cA cB cC hfr0 hfr1 hfr2
 refine wp_region_E 14 (fun w' => SX0 V3 w') (by kernel_rfl) (by (exact kp0)) (fun hHeld => ?_)
 refine WE_tk 0 ?_
 refine WE_tk 1 ?_
 refine WE_tk 2 ?_
 refine WE_tk 3 ?_
 refine WE_tk 4 ?_
 refine WE_tk 5 ?_
 refine WE_tk 6 ?_
 refine WE_tk 7 ?_
 refine WE_tk 8 ?_
 refine WE_tk 9 ?_
 refine WE_tk 10 ?_
 refine WE_tk 11 ?_
 refine WE_tk 12 ?_
 refine WE_tk 13 ?_
 refine WE_last rfl (by kernel_rfl) (fun K hK => ?_)
 go_simp
 refine hK.out _ _ ?_
 clear hK K
 have g2 : w.heap.size ≤ b2 := by rw [← eb2]; exact Nat.le_trans hkW.size hb2.size
 have g3 : w.heap.size ≤ b3 := by rw [← eb3]; exact Nat.le_trans (keptTrans hkW hk2).size hb3.size
 refine then_named (fun X => Tw p N f X go rw rc (tput T n a d (meet (T n a d) x)) ∧ Kept [r] V3 X) ⟨by
   have h9 := (HTV.out.keep (Kept.refl _ _).drew).put hn ha hd (meet (T n a d) x) (i := ix * 3) (by rw [HIX.out])
   rw [HR.out, HEZ.out] at h9
   exact h9, ((((Kept.refl [r] V3).drew.set r _ _ (.inl (by simp))).set r _ _ (.inl (by simp))).set r _ _ (.inl (by simp)))⟩ ?_
 rintro X ⟨HX, hkX⟩
 have ⟨L2x, C2x, F2x⟩ := hkX.blk (by simp; omega) B2'
 have ⟨L3x, C3x, F3x⟩ := hkX.blk (by simp; omega) B3
 have hkwX : Kept [r] w X := Kept.next (keptNil hkw) hkX (fun y hy => .inl hy)
 have HXX := Lib.hid HX
 clear HX C2' F2' C3 F3 C0'' F0'' cA' cB' cC' fA fB fC hrow'
 go_wp2_with fail
 all_goals
   go_ret
   refine ⟨?_, HXX.out, hkwX⟩
   have hbb := HBB.out
   clear HBB HAT HME HEZ HTV HXX
   congr 2
   rw [hbb]
   simp_all
end Go.Proofs.YtincpmdldpakkaaGreatDoor
