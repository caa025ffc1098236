/- Texts: Bs Ad At. -/
import Derived.Test.YtincpmdldpakkaaDoorCi18
import Derived.Test.YtincpmdldpakkaaDoorCi16
import Derived.Test.YtincpmdldpakkaaDoorCi10
namespace Go.Df.Iv
open Go Go.RowKit Go.Df.Sp
structure Ex (p : Vb) (s t : St) : Prop where
 gw : Gw s t
 good : Good p t
 mea : mea p t ≤ mea p s
theorem Ex.refl {p : Vb} {s : St} (h : Good p s) : Ex p s s := ⟨Gw.refl s, h, Nat.le_refl _⟩
theorem Ex.trans {p : Vb} {s t u : St} (h : Ex p s t) (k : Ex p t u) : Ex p s u := ⟨h.gw.trans k.gw, k.good, Nat.le_trans k.mea h.mea⟩
theorem Ex.inc {p : Vb} {s : St} (h : Good p s) {n a d : Nat} {x : D} (hn : n < p.ns.length) (ha : a < p.F.toNat) (hd : d < p.F.toNat) (hx : ∀ Y, Clo p Y → le (Y n a d) x) : Ex p s (s.inc n a d x) := ⟨inc_gw s n a d x, h.inc hn ha hd hx, inc_mea hn ha hd⟩
theorem VOk.edge {p : Vb} (h : VOk p) {k : Nat} (hk : k < p.es.length) :
   0 ≤ (ge p.es k).a ∧ (ge p.es k).a < p.ns.length ∧ 0 ≤ (ge p.es k).b ∧ (ge p.es k).b < p.ns.length ∧ 1 ≤ (ge p.es k).k ∧ (ge p.es k).k ≤ 5 ∧ ((ge p.es k).k ≠ 1 → (ge p.es k).k ≠ 5 → 0 ≤ (ge p.es k).c ∧ (ge p.es k).c < p.ns.length) ∧ fitsB p.ns p.es (ge p.es k) = true := If.Ok.edge (p := Iv.pf p) h.pf hk
theorem gx_mono {p : Vb} (ho : VOk p) {k : Nat} : ∀ i j, i ≤ j → j < (gl p.fl k).length → (gx (gl p.fl k) i).i ≤ (gx (gl p.fl k) j).i := by
 intro i j
 induction j with
 | zero => intro h _; obtain rfl : i = 0 := by omega
           exact Int.le_refl _
 | succ j ih =>
   intro h hj
   by_cases e : i = j + 1
   · subst e; exact Int.le_refl _
   · have h1 := ih (by omega) (by omega)
     have h2 := (pair_in ((ho.fl k (mem_gl (gx_mem hj))).2.1 (j + 1) hj)).2.2.2.2.2 (by omega)
     have h3 : (gx (gl p.fl k) j).i ≤ (gx (gl p.fl k) (j + 1)).i := by
       unfold lessP at h2
       simp only [Nat.add_sub_cancel] at h2
       split at h2
       · simp at h2; omega
       · rename_i h4; omega
     omega
end Go.Df.Iv
namespace Go.Proofs.YtincpmdldpakkaaDoor
open Go.RowKit Go.Df Go.Df.Iv Go.Df.Sp
section
variable {p : Vb} {K : Kn} {w0 w w' : World} {b : Nat} {O O' : Nat → Prop} {G : Gh} {s s' : St}
def GetP (p : Vb) (K : Kn) (w0 : World) (b : Nat) (O : Nat → Prop) (G : Gh) (w : World) (s : St) (Q : St → Prop) (e : Ending) (w' : World) : Prop := ∃ s' O' G', e = .returned (.tuple #[]) ∧ Mem p K w0 b O' G' w' s' ∧ Fy K O O' G G' s s' w w' ∧ Ex p s s' ∧ Q s'
theorem GetS.from {v : World} {e : Ending} (h : GetS p K w0 b O G w s s' e w') (hk : Kept [] v w) : GetS p K w0 b O G v s s' e w' := by
 obtain ⟨O', G', h1, h2, h3⟩ := h
 exact ⟨O', G', h1, h2, (Fy.kept K O G s hk).trans h3⟩
theorem GetP.from {v : World} {Q : St → Prop} {e : Ending} (h : GetP p K w0 b O G w s Q e w') (hk : Kept [] v w) : GetP p K w0 b O G v s Q e w' := by
 obtain ⟨s', O', G', h1, h2, h3, h4⟩ := h
 exact ⟨s', O', G', h1, h2, (Fy.kept K O G s hk).trans h3, h4⟩
theorem GetS.ex {n a d : Nat} {x : D} {e : Ending} (h : GetS p K w0 b O G w s (s.inc n a d x) e w') (hg : Iv.Good p s) (hn : n < p.ns.length) (ha : a < p.F.toNat) (hd : d < p.F.toNat) (hx : ∀ Y, Clo p Y → le (Y n a d) x) : GetP p K w0 b O G w s (fun t => le (t.T n a d) x) e w' := by
 obtain ⟨O', G', h1, h2, h3⟩ := h
 exact ⟨_, O', G', h1, h2, h3, Ex.inc hg hn ha hd hx, inc_le s n a d x⟩
theorem Inp.edge (hI : Inp p K w0) (ho : VOk p) (hb : Below w0.heap.size w0 w) {k : Nat} (hk : k < p.es.length) : ∃ b2 o2 a e : Nat, K.A2 = some ⟨b2, o2, none⟩ ∧ b2 < w0.heap.size ∧ b2 < w.heap.size ∧ (k : Int) < (K.n2 : Int) ∧ (ge p.es k).a = (a : Int) ∧ (ge p.es k).b = (e : Int) ∧ a < p.ns.length ∧ e < p.ns.length ∧
   w.cell? ⟨b2, o2 + k * 4, none⟩ = some (.int .i64 a) ∧ w.cell? ⟨b2, o2 + k * 4 + 1, none⟩ = some (.int .i64 e) ∧ w.cell? ⟨b2, o2 + k * 4 + 2, none⟩ = some (.int .i64 (ge p.es k).k) ∧ w.cell? ⟨b2, o2 + k * 4 + 3, none⟩ = some (.int .i64 (ge p.es k).c) := by
 have hn : k < K.n2 := by rw [← hI.ed.1]; exact hk
 obtain ⟨b2, o2, e2, hl, hc⟩ := hI.ed.2 (by omega)
 obtain ⟨h1, h2, h3, h4⟩ := hc k hn
 have h5 := ho.edge hk
 obtain ⟨a, ha⟩ := Int.eq_ofNat_of_zero_le h5.1
 obtain ⟨e, he⟩ := Int.eq_ofNat_of_zero_le h5.2.2.1
 refine ⟨b2, o2, a, e, e2, hl, Nat.lt_of_lt_of_le hl hb.size, by omega, ha, he, by omega, by omega, ?_, ?_, ?_, ?_⟩
 · rw [← ha]; exact (hb.cell (p := ⟨b2, _, none⟩) hl).trans h1
 · rw [← he]; exact (hb.cell (p := ⟨b2, _, none⟩) hl).trans h2
 · exact (hb.cell (p := ⟨b2, _, none⟩) hl).trans h3
 · exact (hb.cell (p := ⟨b2, _, none⟩) hl).trans h4
theorem Inp.flow (hI : Inp p K w0) (ho : VOk p) (hb : Below w0.heap.size w0 w) {k : Nat} (hk : k < p.es.length) : ∃ (b3 o3 : Nat) (Ai : Option Addr) (ni ci : Nat), K.A3 = some ⟨b3, o3, none⟩ ∧ b3 < w0.heap.size ∧ b3 < w.heap.size ∧ (k : Int) < (K.n3 : Int) ∧
   w.cell? ⟨b3, o3 + k, none⟩ = some (.slice Ai ni ci) ∧ ni ≤ ci ∧ Xps w0 Ai ni (gl p.fl k) ∧ 0 < ni ∧ ni ≤ 8192 := by
 have hkf : k < p.fl.length := by rw [ho.len]; exact hk
 have hn : k < K.n3 := by rw [← hI.fl.1]; exact hkf
 obtain ⟨b3, o3, e3, hl, hc⟩ := hI.fl.2 (by omega)
 obtain ⟨Ai, ni, ci, h1, h3⟩ := hc k hn
 have h4 := ho.fl k hkf
 refine ⟨b3, o3, Ai, ni, ci, e3, hl, Nat.lt_of_lt_of_le hl hb.size, by omega, (hb.cell (p := ⟨b3, _, none⟩) hl).trans h1, hI.fc _ _ _ _ _ _ e3 hn h1, h3, ?_, ?_⟩
 · have := h3.1; omega
 · have := h3.1; omega
theorem xps_at (ho : VOk p) (hb : Below w0.heap.size w0 w) {A : Option Addr} {m k : Nat} {l : List Xp} (hl : ∀ q ∈ l, q ∈ gl p.fl k) (h : Xps w0 A m l) {j : Nat} (hj : j < m) : ∃ (b5 o5 : Nat) (q : Xp) (i o : Nat), A = some ⟨b5, o5, none⟩ ∧ b5 < w0.heap.size ∧ b5 < w.heap.size ∧ l[j]? = some q ∧ q ∈ gl p.fl k ∧ q.i = (i : Int) ∧ q.o = (o : Int) ∧ i < p.F.toNat ∧ o < p.F.toNat ∧
   w.cell? ⟨b5, o5 + j * 5, none⟩ = some (.int .i64 (i : Nat)) ∧ w.cell? ⟨b5, o5 + j * 5 + 1, none⟩ = some (.int .i64 (o : Nat)) ∧ w.cell? ⟨b5, o5 + j * 5 + 2, none⟩ = some (.int .i64 q.k) ∧ w.cell? ⟨b5, o5 + j * 5 + 3, none⟩ = some (.int .i64 q.b) ∧ w.cell? ⟨b5, o5 + j * 5 + 4, none⟩ = some (.int .i64 q.c) := by
 obtain ⟨b5, o5, e, hlt, hc⟩ := h.2 (by omega)
 have hj' : j < l.length := by rw [h.1]; exact hj
 obtain ⟨h1, h2, h3, h4, h5⟩ := hc j hj
 have hm := hl _ (List.getElem_mem hj')
 have hp := ho.pair hm
 obtain ⟨i, hi'⟩ := Int.eq_ofNat_of_zero_le hp.1
 obtain ⟨o, ho'⟩ := Int.eq_ofNat_of_zero_le hp.2.2.1
 rw [gx_lt hj'] at h1 h2 h3 h4 h5
 rw [hi'] at h1
 rw [ho'] at h2
 exact ⟨b5, o5, l[j], i, o, e, hlt, Nat.lt_of_lt_of_le hlt hb.size, List.getElem?_eq_getElem hj', hm, hi', ho', by omega, by omega, (hb.cell (p := ⟨b5, _, none⟩) hlt).trans h1, (hb.cell (p := ⟨b5, _, none⟩) hlt).trans h2, (hb.cell (p := ⟨b5, _, none⟩) hlt).trans h3, (hb.cell (p := ⟨b5, _, none⟩) hlt).trans h4, (hb.cell (p := ⟨b5, _, none⟩) hlt).trans h5⟩
theorem sin_at {O : Nat → Prop} {w : World} {A : Option Addr} {n c : Nat} {l : List Nat} (h : SInO O w A n c (ofNats l)) {i : Nat} (hi : i < n) : ∃ b6 o6, A = some ⟨b6, o6, none⟩ ∧ b6 < w.heap.size ∧ ∃ h' : i < l.length, w.cell? ⟨b6, o6 + i, none⟩ = some (.int .i64 (l[i] : Nat)) := by
 obtain ⟨b6, o6, e, hl, hc⟩ := h.1.1.2 (by omega)
 have hi' : i < l.length := by have := h.1.1.1; rw [ofNats_len] at this; omega
 have h1 := hc i hi
 rw [gi_ofNats hi'] at h1
 exact ⟨b6, o6, e, hl, hi', h1⟩
end
theorem compD_any (x y : D) (x0 x1 x2 y0 y1 y2 z0 z1 z2 : Int) (hx : x.1 = ⟨x0, x1, x2⟩) (hy : y.1 = ⟨y0, y1, y2⟩) (hz : (comp x y).1 = ⟨z0, z1, z2⟩) (w : World) :
   Calls Tryd.prog 65 #[.agg #[.int .i64 x0, .int .i64 x1, .int .i64 x2], .agg #[.int .i64 y0, .int .i64 y1, .int .i64 y2]] w fun e w' => e = .returned (.agg #[.int .i64 z0, .int .i64 z1, .int .i64 z2]) ∧ Below w.heap.size w w' := by
 have h := compose_any x0 x1 x2 y0 y1 y2 w
 have hm : (comp x y).1 = Xf.compose x.1 y.1 := rfl
 rw [hx, hy, hz] at hm
 rw [← hm] at h
 exact h
end Go.Proofs.YtincpmdldpakkaaDoor
namespace Go.Df
open Go.RowKit
structure Pcv (base : Nat) (oI oR oS oX oL oE oV oP : Obj) (w : World) (t : Nat → Nat) (g2 g4 g6 g8 g10 g12 g14 g16 g18 g23 g25 g27 : Nat) : Prop where
 h2 : ObjT w t g2 oI 1 ∧ base ≤ g2
 h4 : ObjT w t g4 oR 2 ∧ base ≤ g4
 h6 : ObjT w t g6 oR 3 ∧ base ≤ g6
 h8 : ObjT w t g8 oR 4 ∧ base ≤ g8
 h10 : ObjT w t g10 oR 5 ∧ base ≤ g10
 h12 : ObjT w t g12 oS 6 ∧ base ≤ g12
 h14 : ObjT w t g14 oX 7 ∧ base ≤ g14
 h16 : ObjT w t g16 oL 8 ∧ base ≤ g16
 h18 : ObjT w t g18 oL 9 ∧ base ≤ g18
 h23 : ObjT w t g23 oE 10 ∧ base ≤ g23
 h25 : ObjT w t g25 oV 11 ∧ base ≤ g25
 h27 : ObjT w t g27 oP 12 ∧ base ≤ g27
theorem Pcv.grow {base : Nat} {oI oR oS oX oL oE oV oP : Obj} {w w' : World} {t t' : Nat → Nat} {g2 g4 g6 g8 g10 g12 g14 g16 g18 g23 g25 g27 : Nat} (h : Pcv base oI oR oS oX oL oE oV oP w t g2 g4 g6 g8 g10 g12 g14 g16 g18 g23 g25 g27) (hg : Grow w t w' t') : Pcv base oI oR oS oX oL oE oV oP w' t' g2 g4 g6 g8 g10 g12 g14 g16 g18 g23 g25 g27 :=
 ⟨⟨h.h2.1.grow hg, h.h2.2⟩, ⟨h.h4.1.grow hg, h.h4.2⟩, ⟨h.h6.1.grow hg, h.h6.2⟩, ⟨h.h8.1.grow hg, h.h8.2⟩, ⟨h.h10.1.grow hg, h.h10.2⟩, ⟨h.h12.1.grow hg, h.h12.2⟩, ⟨h.h14.1.grow hg, h.h14.2⟩, ⟨h.h16.1.grow hg, h.h16.2⟩, ⟨h.h18.1.grow hg, h.h18.2⟩, ⟨h.h23.1.grow hg, h.h23.2⟩, ⟨h.h25.1.grow hg, h.h25.2⟩, ⟨h.h27.1.grow hg, h.h27.2⟩⟩
abbrev SXw (X : List Nat) (ga gb gc gd : Nat) (W w' : World) : Prop := Kept X W w' ∧ (∀ o, w'.cell? ⟨ga, o, none⟩ = W.cell? ⟨ga, o, none⟩) ∧ (∀ o, w'.cell? ⟨gb, o, none⟩ = W.cell? ⟨gb, o, none⟩) ∧ (∀ o, w'.cell? ⟨gc, o, none⟩ = W.cell? ⟨gc, o, none⟩) ∧ (∀ o, w'.cell? ⟨gd, o, none⟩ = W.cell? ⟨gd, o, none⟩)
theorem SXw.of {X : List Nat} {ga gb gc gd : Nat} {W w' : World} (h : Kept X W w') (ha : ga < W.heap.size) (hb : gb < W.heap.size) (hc : gc < W.heap.size) (hd : gd < W.heap.size) (xa : ga ∉ X) (xb : gb ∉ X) (xc : gc ∉ X) (xd : gd ∉ X) : SXw X ga gb gc gd W w' := ⟨h, fun o => h.cell ga o ha xa, fun o => h.cell gb o hb xb, fun o => h.cell gc o hc xc, fun o => h.cell gd o hd xd⟩
namespace Iv
open Sp
theorem NK_sd {L : Nat → Nat → List Nat} {S S' : Nat → List Vs} {i : Nat} {u : Vs} (hS : ∀ x, S' x = if x = i then S x ++ [u] else S x) : NKf L S' = upd2 (NKf L S) 4 i ((S i).length + 1) := by
 funext t' i'
 by_cases e : t' = 4 ∧ i' = i
 · obtain ⟨rfl, rfl⟩ := e
   rw [upd2_at]
   unfold NKf
   rw [if_pos rfl, hS, if_pos rfl, List.length_append]
   rfl
 · rw [upd2_ne e]
   unfold NKf
   by_cases e4 : t' = 4
   · rw [if_pos e4, if_pos e4, hS, if_neg (fun h => e ⟨e4, h⟩)]
   · rw [if_neg e4, if_neg e4]
theorem CK_sd {L : Nat → Nat → List Nat} {S S' : Nat → List Vs} {i : Nat} {u : Vs} (hS : ∀ x, S' x = if x = i then S x ++ [u] else S x) : CKf L S' = upd2 (CKf L S) 4 i (CKf L S 4 i ++ [.int .i64 u.n, .int .i64 u.f, .int .i64 u.k, .int .i64 u.v]) := by
 funext t' i'
 by_cases e : t' = 4 ∧ i' = i
 · obtain ⟨rfl, rfl⟩ := e
   rw [upd2_at]
   unfold CKf
   rw [if_pos rfl, if_pos rfl, hS, if_pos rfl, vcells_snoc]
 · rw [upd2_ne e]
   unfold CKf
   by_cases e4 : t' = 4
   · rw [if_pos e4, if_pos e4, hS, if_neg (fun h => e ⟨e4, h⟩)]
   · rw [if_neg e4, if_neg e4]
theorem SE_one {p : Vb} {j sn : Nat} {u : Vs} (hj : p.sd[j]? = some u) (hn : u.n = (sn : Int)) (x : Nat) : SE p (j + 1) x = if x = sn then SE p j x ++ [u] else SE p j x := by
 have hl : j < p.sd.length := by
   rcases Nat.lt_or_ge j p.sd.length with h | h
   · exact h
   · rw [List.getElem?_eq_none h] at hj; cases hj
 have e : p.sd[j] = u := by rw [List.getElem?_eq_getElem hl] at hj; exact Option.some.inj hj
 unfold SE
 rw [List.take_succ_eq_append_getElem hl, List.filter_append, e]
 by_cases h : x = sn
 · rw [if_pos h, h]; simp [hn]
 · rw [if_neg h]
   have : ¬ (sn : Int) = (x : Int) := by omega
   simp [hn, this]
theorem upd2_len {L : Nat → Nat → List Nat} {B a b k : Nat} (h : ∀ t i, (L t i).length ≤ B) (t i : Nat) : (upd2 L a b (L a b ++ [k]) t i).length ≤ B + 1 := by
 by_cases e : t = a ∧ i = b
 · obtain ⟨rfl, rfl⟩ := e
   rw [upd2_at, List.length_append]
   have := h t i
   simp; omega
 · rw [upd2_ne e]
   have := h t i
   omega
theorem SE_len (p : Vb) (j i : Nat) : (SE p j i).length ≤ j := by
 unfold SE
 refine Nat.le_trans (List.length_filter_le _ _) ?_
 rw [List.length_take]
 omega
theorem NKf_nil (p : Vb) : NKf (LE p 0) (SE p 0) = fun _ _ => 0 := by
 funext t i
 unfold NKf LE SE
 split <;> simp
theorem CKf_nil (p : Vb) : CKf (LE p 0) (SE p 0) = fun _ _ => [] := by
 funext t i
 unfold CKf LE SE
 split <;> simp [ofNats, vcells]
def tsel4 (a b c d : Nat) (t : Nat) : Nat := match t with
 | 0 => a
 | 1 => b
 | 2 => c
 | _ => d
end Iv
end Go.Df
namespace Go.Proofs.YtincpmdldpakkaaDoor
open Go.RowKit Go.Df Go.Df.Iv Go.Df.Sp
def eT (t : Nat) : TypeId := if t = 4 then 58 else 3
def eZ (t : Nat) : Nat := if t = 4 then 4 else 1
structure Bd (p : Vb) (V w : World) (X : List Nat) (gs : Nat) (r : Nat → Nat) (ger n1 n2 : Nat) (L : Nat → Nat → List Nat) (S : Nat → List Vs) (E : Nat → Nat → List Nat) (C : Nat → Nat) (v : Nat → Nat → Value) (m : Nat → Option Nat) (c : Nat → Nat) (ev : Nat → Value → Value) : Prop where
 kept : Kept X V w
 st : IntA w gs n1 (fun x => If.stOf p.ns x)
 rg : Rg eT eZ V.heap.size w r n1 v (NKf L S) (CKf L S)
 en : En V.heap.size w ger n2 m c ev E C
 cd : ∀ x, RO n1 v x → ¬ EO n2 ev x
 xr : ∀ t, t < 5 → r t ∈ X
 xe : ger ∈ X
 gl : gs < V.heap.size
 gr : ∀ t, t < 5 → gs ≠ r t
 ge : gs ≠ ger
 re : ∀ t, t < 5 → r t ≠ ger
def OW (n1 n2 : Nat) (v : Nat → Nat → Value) (m : Nat → Option Nat) (ev : Nat → Value → Value) : Nat → Prop := fun x => RO n1 v x ∨ EO n2 ev x ∨ ∃ k, k < n2 ∧ m k = some x
section
variable {p : Vb} {V w w' : World} {X : List Nat} {gs : Nat} {r : Nat → Nat} {ger n1 n2 : Nat} {L : Nat → Nat → List Nat} {S : Nat → List Vs} {E : Nat → Nat → List Nat} {C : Nat → Nat} {v : Nat → Nat → Value} {m : Nat → Option Nat} {c : Nat → Nat} {ev : Nat → Value → Value}
theorem Bd.lim (h : Bd p V w X gs r ger n1 n2 L S E C v m c ev) : V.heap.size ≤ w.heap.size := h.kept.size
theorem Bd.owlt (h : Bd p V w X gs r ger n1 n2 L S E C v m c ev) {x : Nat} (hx : OW n1 n2 v m ev x) : V.heap.size ≤ x ∧ x < w.heap.size := by
 rcases hx with ⟨t, i, ht, hi, hb⟩ | ⟨k, b, hk, hb⟩ | ⟨k, hk, hb⟩
 · exact ⟨own_ge (h.rg.own t i ht hi) hb, own_lt2 (h.rg.own t i ht hi) hb⟩
 · exact ⟨own_ge (h.en.own k b hk) hb, own_lt2 (h.en.own k b hk) hb⟩
 · exact ⟨h.en.mge k x hk hb, (h.en.tb.is k x hk hb).lt⟩
theorem Bd.keep (h : Bd p V w X gs r ger n1 n2 L S E C v m c ev) (hk : Kept [] w w') : Bd p V w' X gs r ger n1 n2 L S E C v m c ev :=
 { h with kept := h.kept.next hk (by simp), st := h.st.kept hk (by simp), rg := h.rg.kept hk (by simp), en := h.en.kept hk (by simp) }
theorem Bd.row (h : Bd p V w X gs r ger n1 n2 L S E C v m c ev) {t i n' : Nat} {v' : Value} {l' : List Value} {w1 : World} {L' : Nat → Nat → List Nat} {S' : Nat → List Vs} (ht : t < 5) (hi : i < n1) (hk : Kept (v t i).ownBlock.toList w w1) (hv : w1.ownsRow V.heap.size (eT t) (eZ t) v' n' l')
   (hg : ∀ g, v'.ownBlock = some g → (v t i).ownBlock = some g ∨ w.heap.size ≤ g) (hN : NKf L' S' = upd2 (NKf L S) t i n') (hC : CKf L' S' = upd2 (CKf L S) t i l') :
   Bd p V (w1.setCell ⟨r t, i, none⟩ v') X gs r ger n1 n2 L' S' E C (upd2 v t i v') m c ev ∧ Kept (r t :: (v t i).ownBlock.toList) w (w1.setCell ⟨r t, i, none⟩ v') ∧ ∀ x, OW n1 n2 (upd2 v t i v') m ev x → OW n1 n2 v m ev x ∨ w.heap.size ≤ x := by
 have hsn := h.rg.snoc ht hi hk hv hg
 have hk2 : Kept (r t :: (v t i).ownBlock.toList) w (w1.setCell ⟨r t, i, none⟩ v') := (keptWide hk (fun x hx => List.mem_cons_of_mem _ hx)).set (r t) i v' (.inl (by simp))
 have hob : ∀ g, (v t i).ownBlock = some g → V.heap.size ≤ g := fun g hg => own_ge (h.rg.own t i ht hi) hg
 have hRO : ∀ x, RO n1 (upd2 v t i v') x → RO n1 v x ∨ w.heap.size ≤ x := fun x ⟨t', i', ht', hi', hb⟩ => by
   by_cases e : t' = t ∧ i' = i
   · obtain ⟨rfl, rfl⟩ := e
     rw [upd2_at] at hb
     exact (hg x hb).imp (fun h1 => ⟨t', i', ht', hi', h1⟩) id
   · rw [upd2_ne e] at hb
     exact .inl ⟨t', i', ht', hi', hb⟩
 have hown : w.ownsRow V.heap.size (eT t) 1 (v t i) (NKf L S t i) (CKf L S t i) ∨ w.ownsRow V.heap.size (eT t) 4 (v t i) (NKf L S t i) (CKf L S t i) := by
   have h9 := h.rg.own t i ht hi
   unfold eZ at h9
   split at h9
   · exact .inr h9
   · exact .inl h9
 refine ⟨{ kept := h.kept.next hk2 (fun x hx => ?_), st := h.st.kept hk2 (fun hm => ?_), rg := ?_, en := h.en.row hk2 (h.rg.rlt t ht) (h.re t ht) hown (fun x hx => h.cd x ⟨t, i, ht, hi, hx⟩), cd := fun x hx he => ?_, xr := h.xr, xe := h.xe, gl := h.gl, gr := h.gr, ge := h.ge, re := h.re }, hk2, fun x hx => ?_⟩
 · rcases List.mem_cons.1 hx with rfl | hx
   · exact .inl (h.xr t ht)
   · exact .inr (hob x (by simpa using hx))
 · rcases List.mem_cons.1 hm with h1 | h1
   · exact h.gr t ht h1
   · have h2 := hob gs (by simpa using h1); have := h.gl; omega
 · rw [hN, hC]; exact hsn
 · rcases hRO x hx with h1 | h1
   · exact h.cd x h1 he
   · obtain ⟨k, b, hk', hb⟩ := he
     have := own_lt2 (h.en.own k b hk') hb
     omega
 · rcases hx with h1 | h1 | h1
   · exact (hRO x h1).imp .inl id
   · exact .inl (.inr (.inl h1))
   · exact .inl (.inr (.inr h1))
theorem Bd.ent (h : Bd p V w X gs r ger n1 n2 L S E C v m c ev) {k b x n' c' : Nat} {A : Option Addr} {w1 : World} {e : Ending} (hk : k < n2) (hn' : n' = (E k b ++ [x]).length)
   (hk1 : Kept (ev k (.int .i64 (b : Nat))).ownBlock.toList w w1) (hv : w1.ownsRow V.heap.size 3 1 (.slice A n' c') n' ((ofNats (E k b ++ [x])).map (Value.int .i64)))
   (hg : ∀ g, (Value.slice A n' c').ownBlock = some g → (ev k (.int .i64 (b : Nat))).ownBlock = some g ∨ w.heap.size ≤ g)
   (hp : PutT Tryd.prog 3 173 (.slice none 0 0) w1 ger n2 m c ev k (.int .i64 (b : Nat)) (.slice A n' c') e w') :
   ∃ m' c'' ev', e = .returned (.tuple #[]) ∧ Bd p V w' X gs r ger n1 n2 L S (upd2 E k b (E k b ++ [x])) (fun i => if i = k then C i + 1 else C i) v m' c'' ev' ∧ Kept (ger :: ((m k).toList ++ (ev k (.int .i64 (b : Nat))).ownBlock.toList)) w w' ∧ ∀ y, OW n1 n2 v m' ev' y → OW n1 n2 v m ev y ∨ w.heap.size ≤ y := by
 obtain ⟨m', c'', ev', he, hE, hK, hO, hM⟩ := h.en.add h.lim hk hn' hk1 hv hg hp
 have hRG := Rg.apart h.rg h.en hk hK h.re h.cd
 have hXge : ∀ y ∈ (m k).toList ++ (ev k (.int .i64 (b : Nat))).ownBlock.toList, V.heap.size ≤ y := fun y hy => by
   rcases List.mem_append.1 hy with h1 | h1
   · exact h.en.mge k y hk (by simpa using h1)
   · exact own_ge (h.en.own k b hk) (by simpa using h1)
 refine ⟨m', c'', ev', he, { kept := h.kept.next hK (fun y hy => ?_), st := h.st.kept hK (fun hm => ?_), rg := hRG, en := hE, cd := fun y hy hey => ?_, xr := h.xr, xe := h.xe, gl := h.gl, gr := h.gr, ge := h.ge, re := h.re }, hK, fun y hy => ?_⟩
 · rcases List.mem_cons.1 hy with rfl | hy
   · exact .inl h.xe
   · exact .inr (hXge y hy)
 · rcases List.mem_cons.1 hm with h1 | h1
   · exact h.ge h1
   · have h2 := hXge gs h1; have := h.gl; omega
 · rcases hO y hey with h1 | h1
   · exact h.cd y hy h1
   · obtain ⟨t, i, ht, hi, hb⟩ := hy
     have := own_lt2 (h.rg.own t i ht hi) hb
     omega
 · rcases hy with h1 | h1 | ⟨k', hk', h1⟩
   · exact .inl (.inl h1)
   · exact (hO y h1).imp (fun h2 => .inr (.inl h2)) id
   · exact (hM k' y hk' h1).imp (fun h2 => .inr (.inr ⟨k', hk', h2⟩)) id
end
end Go.Proofs.YtincpmdldpakkaaDoor
namespace Go.Df
open Go
section
variable {P : Program} {Q : Exit → Act → World → Prop} {md : Region.Mode} {S : World → Prop} {n : Nat}
theorem WE_two {l : List Oper} (i j : Nat) {o o' : Oper} {post post' : List Oper} {fuel : Nat} {listed : Array Bool} {a : Act} {w : World} (hd : l.drop i = o :: post) (hd' : l.drop j = o' :: post')
   (hr : (decide (Region.ready md l.toArray listed = [i, j]) && decide (i < n) && decide (j < n)) = true)
   (h : ∀ K' : Act → World → Prop, Shut (∀ a w, S w → (S w → WE P md l.toArray n Q S fuel (listed.setIfInBounds i true) a w) → K' a w) → if Region.wanted o (yielded l.toArray a.tmps) = true then Oper.wp P o a w K' Q else K' (a.put o.dst undef) w)
   (h' : ∀ K' : Act → World → Prop, Shut (∀ a w, S w → (S w → WE P md l.toArray n Q S fuel (listed.setIfInBounds j true) a w) → K' a w) → if Region.wanted o' (yielded l.toArray a.tmps) = true then Oper.wp P o' a w K' Q else K' (a.put o'.dst undef) w) :
   WE P md l.toArray n Q S (fuel + 1) listed a w := fun inv => by
 simp only [Bool.and_eq_true, decide_eq_true_eq] at hr
 obtain ⟨⟨hr, hin⟩, hjn⟩ := hr
 refine ⟨fun h0 => (by rw [hr] at h0; cases h0), fun k hk => ?_⟩
 have hk2 : k = i ∨ k = j := by rw [hr] at hk; simpa using hk
 rcases hk2 with rfl | rfl
 · exact wpOp_step (get_drop hd) (fun K' hK => h K' (fun a w hS hW => hK a w ⟨fun _ => hS, hW hS (inv.set hk hin)⟩))
 · exact wpOp_step (get_drop hd') (fun K' hK => h' K' (fun a w hS hW => hK a w ⟨fun _ => hS, hW hS (inv.set hk hjn)⟩))
end
end Go.Df
