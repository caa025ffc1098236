/- Texts: Ic Jdz Pd Ps Pt. -/
import Derived.Test.YtooejoajojanjaaGreatDoorSx03
import Derived.Test.YtooejoajojanjaaGreatDoorSx01
namespace Go.Df
open Go.RowKit
namespace If
open Sp
/-- The state of the tabulation: what is held (node, fact at the start, fact), what was entered (edge, fact at the callee's start, fact at the caller's), the pending pairs, the queue. -/
structure St where
  h : Nat → Nat → Nat → Bool
  e : Nat → Nat → Nat → Bool
  pd : Nat → List (Nat × Nat)
  q : List Nat
def St.add (s : St) (n a d : Nat) : St :=
  if s.h n a d = true then s else
    ⟨fun n' a' d' => s.h n' a' d' || (n' == n && (a' == a && d' == d)), s.e, fun n' => if n' = n then s.pd n ++ [(a, d)] else s.pd n', if s.pd n = [] then s.q ++ [n] else s.q⟩
def St.ent (s : St) (k b a : Nat) : St := ⟨s.h, fun k' b' a' => s.e k' b' a' || (k' == k && (b' == b && a' == a)), s.pd, s.q⟩
/-- The pairs of an edge that begin with d. -/
def froms (l : List Pr) (d : Nat) : List Pr := l.filter fun q => q.i == (d : Int)
/-- The elements of a set of facts, ascending. -/
def elems (F : Nat) (f : Nat → Bool) : List Nat := (List.range F).filter f
def outL (p : Pb) (n : Nat) : List Nat := (List.range p.es.length).filter fun k => (ge p.es k).a == (n : Int)
def callL (p : Pb) (n : Nat) : List Nat := (List.range p.es.length).filter fun k => (ge p.es k).k == 2 && (ge p.es k).b == (n : Int)
def retL (p : Pb) (n : Nat) : List Nat := (List.range p.es.length).filter fun k => ((ge p.es k).k == 3 || (ge p.es k).k == 4) && (ge p.es k).c == (n : Int)
def seedL (p : Pb) (n : Nat) : List Sd := p.sd.filter fun s => s.n == (n : Int)
def spread (p : Pb) (k a d : Nat) (s : St) : St := (froms (gf p.fl k) d).foldl (fun s q => s.add (ge p.es k).b.toNat a q.o.toNat) s
/-- What is known of the callee at a return edge r, passed on to a. -/
def enterR (p : Pb) (k a b : Nat) (s : St) (r : Nat) : St :=
  if stOf p.ns (ge p.es r).a.toNat = (ge p.es k).b.toNat then (elems p.F.toNat (s.h (ge p.es r).a.toNat b)).foldl (fun s f => spread p r a f s) s else s
def enter1 (p : Pb) (k a b : Nat) (s : St) : St :=
  if (s.add (ge p.es k).b.toNat b b).e k b a = true then s.add (ge p.es k).b.toNat b b else (retL p (ge p.es k).a.toNat).foldl (enterR p k a b) ((s.add (ge p.es k).b.toNat b b).ent k b a)
def enter (p : Pb) (k a d : Nat) (s : St) : St := (froms (gf p.fl k) d).foldl (fun s q => enter1 p k a q.o.toNat s) s
def leaveR (p : Pb) (n d : Nat) (cs : List Nat) (s : St) (r : Nat) : St := if (ge p.es r).a.toNat = n then cs.foldl (fun s a => spread p r a d s) s else s
def leave1 (p : Pb) (n b d : Nat) (s : St) (k : Nat) : St := (retL p (ge p.es k).a.toNat).foldl (leaveR p n d (elems p.F.toNat (s.e k b))) s
def leave (p : Pb) (n b d : Nat) (s : St) : St := (callL p (stOf p.ns n)).foldl (leave1 p n b d) s
def stepE (p : Pb) (a d : Nat) (s : St) (k : Nat) : St := if (ge p.es k).k = 1 ∨ (ge p.es k).k = 5 then spread p k a d s else if (ge p.es k).k = 2 then enter p k a d s else s
def stepA (p : Pb) (n a d : Nat) (s : St) : St := if a = 0 ∧ d = 0 then (seedL p n).foldl (fun s x => s.add n 0 x.f.toNat) s else s
def step (p : Pb) (n a d : Nat) (s : St) : St :=
  if (gn p.ns n).k = 3 ∨ (gn p.ns n).k = 4 then leave p n a d ((outL p n).foldl (stepE p a d) (stepA p n a d s)) else (outL p n).foldl (stepE p a d) (stepA p n a d s)
/-- Later states hold more; what is newly held is pending. -/
structure Le (s t : St) : Prop where
  h : ∀ n a d, s.h n a d = true → t.h n a d = true
  e : ∀ k b a, s.e k b a = true → t.e k b a = true
  pd : ∀ n x, x ∈ s.pd n → x ∈ t.pd n
  new : ∀ n a d, t.h n a d = true → s.h n a d = true ∨ (a, d) ∈ t.pd n
  old : ∀ n x, x ∈ t.pd n → x ∈ s.pd n ∨ s.h n x.1 x.2 = false
theorem Le.refl (s : St) : Le s s := ⟨fun _ _ _ h => h, fun _ _ _ h => h, fun _ _ h => h, fun _ _ _ h => .inl h, fun _ _ h => .inl h⟩
theorem Le.trans {s t u : St} (h : Le s t) (g : Le t u) : Le s u := by
  refine ⟨fun n a d x => g.h _ _ _ (h.h _ _ _ x), fun n a d x => g.e _ _ _ (h.e _ _ _ x), fun n x y => g.pd _ _ (h.pd _ _ y), fun n a d x => ?_, fun n x y => ?_⟩
  · rcases g.new _ _ _ x with y | y
    · rcases h.new _ _ _ y with z | z
      · exact .inl z
      · exact .inr (g.pd _ _ z)
    · exact .inr y
  · rcases g.old _ _ y with z | z
    · exact h.old _ _ z
    · refine .inr ?_
      cases hh : s.h n x.1 x.2 with
      | false => rfl
      | true => rw [h.h _ _ _ hh] at z; cases z
/-- The set of what may be found. -/
structure Snd (p : Pb) (s : St) : Prop where
  h : ∀ n a d, s.h n a d = true → PE p a n d
  e : ∀ k b a, s.e k b a = true → k < p.es.length ∧ (ge p.es k).k = 2 ∧ ∃ q ∈ gf p.fl k, q.o.toNat = b ∧ PE p a (ge p.es k).a.toNat q.i.toNat
theorem Snd.add {p : Pb} {s : St} (h : Snd p s) {n a d : Nat} (hp : PE p a n d) : Snd p (s.add n a d) := by
  unfold St.add
  split
  · exact h
  · refine ⟨fun n' a' d' h' => ?_, h.e⟩
    simp at h'
    rcases h' with h' | ⟨rfl, rfl, rfl⟩
    · exact h.h _ _ _ h'
    · exact hp
/-- What follows from the edges that are done. -/
structure Cp (p : Pb) (s : St) (D : Nat → Nat → Nat → Prop) : Prop where
  seed : ∀ n, D n 0 0 → ∀ x ∈ p.sd, x.n = n → s.h n 0 x.f.toNat = true
  flow : ∀ n a d, D n a d → ∀ k, k < p.es.length → ((ge p.es k).k = 1 ∨ (ge p.es k).k = 5) → (ge p.es k).a = n → ∀ q ∈ gf p.fl k, q.i = d → s.h (ge p.es k).b.toNat a q.o.toNat = true
  call : ∀ n a d, D n a d → ∀ k, k < p.es.length → (ge p.es k).k = 2 → (ge p.es k).a = n → ∀ q ∈ gf p.fl k, q.i = d → s.h (ge p.es k).b.toNat q.o.toNat q.o.toNat = true ∧ s.e k q.o.toNat a = true
  ret : ∀ k b a, s.e k b a = true → ∀ r, r < p.es.length → ((ge p.es r).k = 3 ∨ (ge p.es r).k = 4) → (ge p.es r).c = (ge p.es k).a → stOf p.ns (ge p.es r).a.toNat = (ge p.es k).b.toNat → ∀ d, D (ge p.es r).a.toNat b d → ∀ q ∈ gf p.fl r, q.i = d → s.h (ge p.es r).b.toNat a q.o.toNat = true
/-- The part of a state that is done: held, and not pending. -/
def Dn (s : St) (n : Nat) (rest : List (Nat × Nat)) (n' a d : Nat) : Prop := s.h n' a d = true ∧ (a, d) ∉ s.pd n' ∧ ¬ (n' = n ∧ (a, d) ∈ rest)
/-- The rule of returns alone, for all that is done but one. -/
def CpR (p : Pb) (s : St) (D : Nat → Nat → Nat → Prop) : Prop := ∀ k b a, s.e k b a = true → ∀ r, r < p.es.length → ((ge p.es r).k = 3 ∨ (ge p.es r).k = 4) → (ge p.es r).c = (ge p.es k).a → stOf p.ns (ge p.es r).a.toNat = (ge p.es k).b.toNat → ∀ d, D (ge p.es r).a.toNat b d → ∀ q ∈ gf p.fl r, q.i = d → s.h (ge p.es r).b.toNat a q.o.toNat = true
/-- A state that enters nothing new keeps the rule. -/
theorem CpR.mono {p : Pb} {s t : St} {D : Nat → Nat → Nat → Prop} (h : CpR p s D) (hl : Le s t) (he : t.e = s.e) : CpR p t D := fun k b a hk r r1 r2 r3 r4 d hd q hq hi => hl.h _ _ _ (h k b a (by rw [← he]; exact hk) r r1 r2 r3 r4 d hd q hq hi)
end If
end Go.Df
namespace Go.Df
open Go.RowKit
namespace If
/-- A slice of pairs; of flow functions; of seeds. -/
def Prs (w : World) (A : Option Addr) (n : Nat) (l : List Pr) : Prop :=
  l.length = n ∧ (0 < n → ∃ b o, A = some ⟨b, o, none⟩ ∧ b < w.heap.size ∧ ∀ i, i < n → w.cell? ⟨b, o + i * 2, none⟩ = some (.int .i64 (gp l i).i) ∧ w.cell? ⟨b, o + i * 2 + 1, none⟩ = some (.int .i64 (gp l i).o))
theorem Prs.later {w w' : World} {A : Option Addr} {n : Nat} {l : List Pr} (h : Prs w A n l) (hb : Below w.heap.size w w') : Prs w' A n l :=
  ⟨h.1, fun hn => by
    obtain ⟨b, o, e, hl, hc⟩ := h.2 hn
    exact ⟨b, o, e, Nat.lt_of_lt_of_le hl hb.size, fun i hi => ⟨(hb.cell (p := ⟨b, _, none⟩) hl).trans (hc i hi).1, (hb.cell (p := ⟨b, _, none⟩) hl).trans (hc i hi).2⟩⟩⟩
def Sds (w : World) (A : Option Addr) (n : Nat) (l : List Sd) : Prop :=
  l.length = n ∧ (0 < n → ∃ b o, A = some ⟨b, o, none⟩ ∧ b < w.heap.size ∧ ∀ i, i < n → w.cell? ⟨b, o + i * 2, none⟩ = some (.int .i64 (gd l i).n) ∧ w.cell? ⟨b, o + i * 2 + 1, none⟩ = some (.int .i64 (gd l i).f))
theorem Sds.later {w w' : World} {A : Option Addr} {n : Nat} {l : List Sd} (h : Sds w A n l) (hb : Below w.heap.size w w') : Sds w' A n l :=
  ⟨h.1, fun hn => by
    obtain ⟨b, o, e, hl, hc⟩ := h.2 hn
    exact ⟨b, o, e, Nat.lt_of_lt_of_le hl hb.size, fun i hi => ⟨(hb.cell (p := ⟨b, _, none⟩) hl).trans (hc i hi).1, (hb.cell (p := ⟨b, _, none⟩) hl).trans (hc i hi).2⟩⟩⟩
def Flw (w : World) (A : Option Addr) (n : Nat) (ls : List (List Pr)) : Prop :=
  ls.length = n ∧ (0 < n → ∃ b o, A = some ⟨b, o, none⟩ ∧ b < w.heap.size ∧ ∀ i, i < n → ∃ Ai ni ci, w.cell? ⟨b, o + i, none⟩ = some (.slice Ai ni ci) ∧ ni ≤ ci ∧ Prs w Ai ni (gf ls i))
theorem Flw.later {w w' : World} {A : Option Addr} {n : Nat} {ls : List (List Pr)} (h : Flw w A n ls) (hb : Below w.heap.size w w') : Flw w' A n ls :=
  ⟨h.1, fun hn => by
    obtain ⟨b, o, e, hl, hc⟩ := h.2 hn
    refine ⟨b, o, e, Nat.lt_of_lt_of_le hl hb.size, fun i hi => ?_⟩
    obtain ⟨Ai, ni, ci, h1, h2, h3⟩ := hc i hi
    exact ⟨Ai, ni, ci, (hb.cell (p := ⟨b, _, none⟩) hl).trans h1, h2, h3.later hb⟩⟩
/-- A part of a flow function comes back. -/
def GetPrs (w0 : World) (w : World) (l : List Pr) (e : Ending) (w' : World) : Prop := ∃ A n c, e = .returned (.slice A n c) ∧ Prs w0 A n l ∧ Below w.heap.size w w'
end If
namespace If
/-- A slice of summaries. -/
structure SmW (w : World) (A : Option Addr) (n : Nat) (L : List Su) : Prop where
  len : L.length = n
  mem : 0 < n → ∃ b o, A = some ⟨b, o, none⟩ ∧ b < w.heap.size ∧ ∀ i, i < n → ∃ E ne ce T nt ct, w.cell? ⟨b, o + i * 3, none⟩ = some (.int .i64 (gS L i).f) ∧ w.cell? ⟨b, o + i * 3 + 1, none⟩ = some (.slice E ne ce) ∧ w.cell? ⟨b, o + i * 3 + 2, none⟩ = some (.slice T nt ct) ∧ Prs w E ne (gS L i).x ∧ Prs w T nt (gS L i).y
theorem SmW.later {w w' : World} {A : Option Addr} {n : Nat} {L : List Su} (h : SmW w A n L) (hb : Below w.heap.size w w') : SmW w' A n L :=
  ⟨h.len, fun hn => by
    obtain ⟨b, o, e, hl, hc⟩ := h.mem hn
    refine ⟨b, o, e, Nat.lt_of_lt_of_le hl hb.size, fun i hi => ?_⟩
    obtain ⟨E, ne, ce, T, nt, ct, h1, h2, h3, h4, h5⟩ := hc i hi
    exact ⟨E, ne, ce, T, nt, ct, (hb.cell (p := ⟨b, _, none⟩) hl).trans h1, (hb.cell (p := ⟨b, _, none⟩) hl).trans h2, (hb.cell (p := ⟨b, _, none⟩) hl).trans h3, h4.later hb, h5.later hb⟩⟩
end If
end Go.Df
namespace Go.Proofs.YtooejoajojanjaaGreatDoor
open Go.RowKit Go.Df Go.Df.If
attribute [local go_sem ↓] Go.wp_at_zero Go.wp_at_succ
theorem ints_twoP (w : World) (b : Nat) (x y : Int) (t : TypeId) (hb : b = w.heap.size) : Ints (w.alloc (.cells #[.int .i64 x, .int .i64 y] t)) (some ⟨b, 0, none⟩) 2 [x, y] := by
  subst hb
  refine ⟨rfl, fun _ => ⟨_, _, rfl, by simp, fun i hi => ?_⟩⟩
  rw [World.cell?_alloc_new, Nat.zero_add]
  match i, hi with
  | 0, _ => rfl
  | 1, _ => rfl
set_option maxRecDepth 100000 in
set_option maxHeartbeats 4000000 in
theorem checkPair_any (A : Option Addr) (n c : Nat) (F : Int) (l : List Pr) (j : Nat) (w : World) (hP : Prs w A n l) (hj : j < n) (hn : n ≤ 9223372036854775807) (e : Int) (he : prErr F l j = e) :
    Calls Tryz.prog 35 #[.slice A n c, .int .i64 (j : Nat), .int .i64 F] w fun e' w' => e' = .returned (.int .i64 e) ∧ Below w.heap.size w w' := by
  have HE := Lib.hid he
  obtain ⟨b, o, rfl, hl, hc⟩ := hP.2 (by omega)
  obtain ⟨h1, h2⟩ := hc j hj
  have HC := Lib.hid hc
  have LB := Lib.hid hl
  obtain ⟨xi, xo, en⟩ : ∃ xi xo, gp l j = ⟨xi, xo⟩ := ⟨_, _, rfl⟩
  rw [en] at h1 h2
  have HEr : Hid (e = if xi < 0 ∨ F ≤ xi ∨ xo < 0 ∨ F ≤ xo then 4 else if 0 < j ∧ lessR (gp l (j - 1)) ⟨xi, xo⟩ = false then 13 else 0) := by
    show _ = _
    rw [← HE.out]
    unfold prErr
    rw [en]
  have hj9 : (j : Int) < (n : Int) := by omega
  clear hc en he hP
  go_enter Tryz.func35, Tryz.ntmps35
  go_upto_region 2 with fail
  refine wp_named (fun V => ∃ g, w.heap.size = g ∧ Blk V g [.int .i64 xi, .int .i64 xo] ∧ Kept [] w V) ⟨_, rfl, Blk.new _ _ _ _ rfl, (Kept.refl _ _).alloc _⟩ ?_
  rintro V ⟨g, eg, Bg, hkV⟩
  rw [eg]
  have ⟨LG, CG, FG⟩ := Bg
  have hBV := hkV.toBelow
  clear h1 h2 eg
  by_cases r0 : xi < 0
  · have z : decide (xi < 0) = true := by simpa using r0
    have hE : Hid (e = 4) := by show _ = _; rw [HEr.out, if_pos (by omega)]
    go_wp2_with fail
    go_ret
    exact ⟨ret_int hE.out.symm, hBV⟩
  have z0 : decide (xi < 0) = false := by simpa using r0
  by_cases r1 : F ≤ xi
  · have z : decide (F ≤ xi) = true := by simpa using r1
    have hE : Hid (e = 4) := by show _ = _; rw [HEr.out, if_pos (by omega)]
    go_wp2_with fail
    go_ret
    exact ⟨ret_int hE.out.symm, hBV⟩
  have z1 : decide (F ≤ xi) = false := by simpa using r1
  by_cases r2 : xo < 0
  · have z : decide (xo < 0) = true := by simpa using r2
    have hE : Hid (e = 4) := by show _ = _; rw [HEr.out, if_pos (by omega)]
    go_wp2_with fail
    go_ret
    exact ⟨ret_int hE.out.symm, hBV⟩
  have z2 : decide (xo < 0) = false := by simpa using r2
  by_cases r3 : F ≤ xo
  · have z : decide (F ≤ xo) = true := by simpa using r3
    have hE : Hid (e = 4) := by show _ = _; rw [HEr.out, if_pos (by omega)]
    go_wp2_with fail
    go_ret
    exact ⟨ret_int hE.out.symm, hBV⟩
  have z3 : decide (F ≤ xo) = false := by simpa using r3
  have HEy : Hid (e = if 0 < j ∧ lessR (gp l (j - 1)) ⟨xi, xo⟩ = false then 13 else 0) := by
    show _ = _
    rw [HEr.out, if_neg (by omega)]
  clear HEr r0 r1 r2 r3
  by_cases hj0 : j = 0
  · have y1 : decide (0 < j) = false := by simp; omega
    have y2 : decide ((0 : Int) < (j : Int)) = false := by simp; omega
    have hfin : Hid (e = 0) := by show _ = _; rw [HEy.out, if_neg (by omega)]
    clear hj0
    go_upto_region 4 with fail
    go_quiet (fail)
    go_wp2_with fail
    go_ret
    exact ⟨ret_int hfin.out.symm, (hkV.drewN _).toBelow⟩
  have y1 : decide (0 < j) = true := by simp; omega
  have y2 : decide ((0 : Int) < (j : Int)) = true := by simp; omega
  have y3 : IntKind.i64.wrap ((j : Int) - 1) = (j : Int) - 1 := IntWalk.i64_in _ (by omega)
  have y4 : (0 : Int) ≤ (j : Int) - 1 := by omega
  have y5 : ((j : Int) - 1).toNat = j - 1 := by omega
  have y6 : (j : Int) - 1 < (n : Int) := by omega
  have y7 : 0 < j := by omega
  have y8 : 1 ≤ j := by omega
  have y9 : (1 : Int) ≤ (j : Int) := by omega
  have y10 : j ≤ n := by omega
  have y11 : j < n + 1 := by omega
  have y12 : (j : Int) < (n : Int) + 1 := by omega
  have y13 : (j : Int) ≤ (n : Int) := by omega
  obtain ⟨p1, p2⟩ := HC.out (j - 1) (by omega)
  obtain ⟨pi, po, ep⟩ : ∃ pi po, gp l (j - 1) = ⟨pi, po⟩ := ⟨_, _, rfl⟩
  rw [ep] at p1 p2
  have q1 : V.cell? ⟨b, o + (j - 1) * 2, none⟩ = some (.int .i64 pi) := (hkV.cell b _ LB.out (by simp)).trans p1
  have q2 : V.cell? ⟨b, o + (j - 1) * 2 + 1, none⟩ = some (.int .i64 po) := (hkV.cell b _ LB.out (by simp)).trans p2
  have hbV : b < V.heap.size := Nat.lt_of_lt_of_le LB.out hkV.size
  have HEx : Hid (e = if lessR ⟨pi, po⟩ ⟨xi, xo⟩ = false then 13 else 0) := by
    show _ = _
    rw [HEy.out, ep]
    simp [y7]
  clear p1 p2 ep hj0
  go_upto_region 4 with fail
  go_cut [56] (fun s wx => s = .bool (!lessR ⟨pi, po⟩ ⟨xi, xo⟩) ∧ Kept [] V wx)
  case first =>
    go_region_held3 (fun w' => SX0 V w') (repeat' first | (with_reducible assumption) | (with_reducible exact SX0.init _) | (with_reducible exact SX0.refl _) | (with_reducible refine SX0.alloc ?_ _) | (with_reducible refine SX0.call ?_ (by assumption)) | (with_reducible refine SX0.set ?_ _ _ _ ?_) | (with_reducible refine SX0.drew ?_) | (simp; done) | omega | (simp; omega))
      (first | (go_at_call 68; refine (compare_any _ _ _).mono ?_; rintro e w1 ⟨rfl, rfl⟩) | (go_at_call 67; refine (or_any _ _ _ [Sp.cmpI pi xi, Sp.cmpI po xo] _ (by first | exact ints_twoP _ _ _ _ _ (by first | rfl | simp) | exact Ints.drew (ints_twoP _ _ _ _ _ (by first | rfl | simp))) (by omega) (by omega)).mono ?_; rintro e w2 ⟨rfl, rfl⟩))
    all_goals
      go_wp2_with fail
      go_meet
      refine ⟨congrArg Value.bool (ordR_ge ⟨pi, po⟩ ⟨xi, xo⟩), ?_⟩
      (repeat' first | (with_reducible assumption) | (with_reducible exact Kept.refl _ _) | (with_reducible refine Kept.alloc ?_ _) | (with_reducible refine Kept.call ?_ (by assumption)) | (with_reducible refine Kept.set ?_ _ _ _ (Or.inr ?_)) | (with_reducible refine Kept.drew ?_) | (simp; done) | omega | (simp; omega))
  case rest =>
    obtain ⟨rfl, hkc⟩ := hcut
    have hkwc : Kept [] w wc := keptTrans hkV hkc
    clear CG FG q1 q2
    by_cases hles : lessR ⟨pi, po⟩ ⟨xi, xo⟩ = true
    · rw [hles]
      have hfin : Hid (e = 0) := by show _ = _; rw [HEx.out, hles, if_neg (by simp)]
      clear hles
      go_wp2_with fail
      go_ret
      exact ⟨ret_int hfin.out.symm, hkwc.toBelow⟩
    · rw [Bool.not_eq_true] at hles
      rw [hles]
      have hfin : Hid (e = 13) := by show _ = _; rw [HEx.out, hles, if_pos rfl]
      clear hles
      go_wp2_with fail
      go_ret
      exact ⟨ret_int hfin.out.symm, hkwc.toBelow⟩
set_option maxRecDepth 100000 in
set_option maxHeartbeats 4000000 in
theorem checkFunc_any (A : Option Addr) (n c : Nat) (L : List Su) (i : Nat) (w : World) (hS : SmW w A n L) (hi : i < n) (hn : n ≤ 9223372036854775807) (e : Int) (he : fnErr L i = e) :
    Calls Tryz.prog 34 #[.slice A n c, .int .i64 (i : Nat)] w fun e' w' => e' = .returned (.int .i64 e) ∧ Below w.heap.size w w' := by
  have HE := Lib.hid he
  obtain ⟨b, o, rfl, hl, hc⟩ := hS.mem (by omega)
  obtain ⟨-, -, -, -, -, -, h1, -⟩ := hc i hi
  have HC := Lib.hid hc
  obtain ⟨x, en⟩ : ∃ x, (gS L i).f = x := ⟨_, rfl⟩
  rw [en] at h1
  have HEr : Hid (e = if x < 0 ∨ 256 ≤ x then 4 else if 0 < i ∧ x ≤ (gS L (i - 1)).f then 13 else 0) := by
    show _ = _
    rw [← HE.out]
    unfold fnErr
    rw [en]
  have hi9 : (i : Int) < (n : Int) := by omega
  clear hc en he hS
  go_enter Tryz.func34, Tryz.ntmps34
  by_cases r0 : x < 0
  · have z : decide (x < 0) = true := by simpa using r0
    have hE : Hid (e = 4) := by show _ = _; rw [HEr.out, if_pos (by omega)]
    go_wp2_with fail
    go_ret
    exact ⟨ret_int hE.out.symm, Below.refl _ _⟩
  have z0 : decide (x < 0) = false := by simpa using r0
  by_cases r1 : 256 ≤ x
  · have z : decide (256 ≤ x) = true := by simpa using r1
    have hE : Hid (e = 4) := by show _ = _; rw [HEr.out, if_pos (by omega)]
    go_wp2_with fail
    go_ret
    exact ⟨ret_int hE.out.symm, Below.refl _ _⟩
  have z1 : decide (256 ≤ x) = false := by simpa using r1
  have HEy : Hid (e = if 0 < i ∧ x ≤ (gS L (i - 1)).f then 13 else 0) := by
    show _ = _
    rw [HEr.out, if_neg (by omega)]
  clear HEr r0 r1
  by_cases hj0 : i = 0
  · have y1 : decide (0 < i) = false := by simp; omega
    have y2 : decide ((0 : Int) < (i : Int)) = false := by simp; omega
    have hfin : Hid (e = 0) := by show _ = _; rw [HEy.out, if_neg (by omega)]
    clear hj0
    go_upto_region 3 with fail
    go_quiet (fail)
    go_wp2_with fail
    go_ret
    exact ⟨ret_int hfin.out.symm, ((Kept.refl [] w).drewN _).toBelow⟩
  have y1 : decide (0 < i) = true := by simp; omega
  have y2 : decide ((0 : Int) < (i : Int)) = true := by simp; omega
  have y3 : IntKind.i64.wrap ((i : Int) - 1) = (i : Int) - 1 := IntWalk.i64_in _ (by omega)
  have y4 : (0 : Int) ≤ (i : Int) - 1 := by omega
  have y5 : ((i : Int) - 1).toNat = i - 1 := by omega
  have y6 : (i : Int) - 1 < (n : Int) := by omega
  have y7 : 0 < i := by omega
  have y8 : 1 ≤ i := by omega
  have y9 : (1 : Int) ≤ (i : Int) := by omega
  have y10 : i ≤ n := by omega
  have y11 : i < n + 1 := by omega
  have y12 : (i : Int) < (n : Int) + 1 := by omega
  have y13 : (i : Int) ≤ (n : Int) := by omega
  obtain ⟨-, -, -, -, -, -, p1, -⟩ := HC.out (i - 1) (by omega)
  obtain ⟨y, ep⟩ : ∃ y, (gS L (i - 1)).f = y := ⟨_, rfl⟩
  rw [ep] at p1
  have HEx : Hid (e = if x ≤ y then 13 else 0) := by
    show _ = _
    rw [HEy.out, ep]
    simp [y7]
  clear ep hj0 HEy
  by_cases hxy : x ≤ y
  · have g1 : decide (x ≤ y) = true := by simpa using hxy
    have hfin : Hid (e = 13) := by show _ = _; rw [HEx.out, if_pos hxy]
    go_upto_region 3 with fail
    go_quiet (fail)
    go_wp2_with fail
    go_ret
    exact ⟨ret_int hfin.out.symm, ((Kept.refl [] w).drewN _).toBelow⟩
  · have g1 : decide (x ≤ y) = false := by simpa using hxy
    have hfin : Hid (e = 0) := by show _ = _; rw [HEx.out, if_neg hxy]
    go_upto_region 3 with fail
    go_quiet (fail)
    go_wp2_with fail
    go_ret
    exact ⟨ret_int hfin.out.symm, ((Kept.refl [] w).drewN _).toBelow⟩
end Go.Proofs.YtooejoajojanjaaGreatDoor
namespace Go.Df
open Go.RowKit
theorem own_put {w : World} {base : Nat} {e : TypeId} {k n c g i : Nat} {xs : List Value} (h : w.ownsRow base e k (.slice (some ⟨g, 0, none⟩) n c) n xs) (v : Value) : (w.setCell ⟨g, i, none⟩ v).ownsRow base e k (.slice (some ⟨g, 0, none⟩) n c) n (xs.set i v) := by
  refine ⟨by rw [List.length_set]; exact h.1, ?_⟩
  rcases h.2 with ⟨h1, _⟩ | ⟨g', cap, cur, h1, hb, hh, hnc, hcm, hcs, htk⟩
  · cases h1
  · injection h1 with h1 _ h3
    injection h1 with h1
    injection h1 with h1 _ _
    subst h1
    subst h3
    refine .inr ⟨g, c, cur.setIfInBounds i v, rfl, hb, ?_, hnc, hcm, by simpa using hcs, ?_⟩
    · unfold World.setCell
      simp only [Array.getElem?_modify]
      simp [hh]
    · rw [Array.toList_setIfInBounds, List.take_set, htk]
theorem own_shape {w : World} {base : Nat} {e : TypeId} {k n : Nat} {v : Value} {xs : List Value} (h : w.ownsRow base e k v n xs) : ∃ A c, v = .slice A n c := by
  rcases h.2 with ⟨rfl, rfl⟩ | ⟨g, cap, cur, rfl, _⟩
  · exact ⟨_, _, rfl⟩
  · exact ⟨_, _, rfl⟩
theorem own_blk {w : World} {base : Nat} {e : TypeId} {k n : Nat} {v : Value} {xs : List Value} (h : w.ownsRow base e k v n xs) {g : Nat} (hg : v.ownBlock = some g) : base ≤ g ∧ g < w.heap.size := by
  rcases h.2 with ⟨rfl, _⟩ | ⟨g', cap, cur, rfl, h3, h4, _⟩
  · cases hg
  · obtain rfl : g' = g := by simpa [Value.ownBlock] using hg
    exact ⟨h3, (Array.getElem?_eq_some_iff.1 h4).1⟩
namespace If
def prC (l : List Pr) : List Value := l.flatMap fun p => [.int .i64 p.i, .int .i64 p.o]
theorem prC_snoc (l : List Pr) (a b : Int) : prC l ++ [.int .i64 a, .int .i64 b] = prC (l ++ [⟨a, b⟩]) := by simp [prC]
theorem prC_len (l : List Pr) : (prC l).length = l.length * 2 := by
  induction l with
  | nil => rfl
  | cons p l ih =>
    show (Value.int .i64 p.i :: Value.int .i64 p.o :: prC l).length = _
    simp [ih]
    omega
theorem prC_get : ∀ {l : List Pr} {i : Nat}, i < l.length → (prC l)[i * 2]? = some (.int .i64 (gp l i).i) ∧ (prC l)[i * 2 + 1]? = some (.int .i64 (gp l i).o)
  | [], _, h => absurd h (by simp)
  | p :: l, 0, _ => ⟨rfl, rfl⟩
  | p :: l, i + 1, h => by
    have h9 := prC_get (l := l) (i := i) (by simpa using h)
    have e1 : (i + 1) * 2 = i * 2 + 1 + 1 := by omega
    have e2 : gp (p :: l) (i + 1) = gp l i := by rw [gp_lt h, gp_lt (by simpa using h)]; rfl
    rw [e1, e2]
    exact h9
theorem Prs.ofOwn {w : World} {base : Nat} {e : TypeId} {A : Option Addr} {n m c : Nat} {l : List Pr} (h : w.ownsRow base e 2 (.slice A n c) m (prC l)) : Prs w A n l ∧ n = m := by
  obtain ⟨A', c', e9⟩ := own_shape h
  injection e9 with e1 e2 e3
  subst e2
  have hl : l.length = n := by have h1 := h.1; rw [prC_len] at h1; omega
  refine ⟨⟨hl, fun h0 => ?_⟩, rfl⟩
  obtain ⟨g, c', hv, hb, hg, hc, -, hcell, -⟩ := own_cellsT h h0
  injection hv with e1 e2 e3
  subst e1
  refine ⟨g, 0, rfl, hg, fun i hi => ?_⟩
  rw [Nat.zero_add, hcell _ (by omega), hcell _ (by omega)]
  exact prC_get (by omega)
/-- The row at the exit node, at the throw node. -/
def lsB (u : Su) : Bool → List Pr
  | false => u.x
  | true => u.y
structure SmO (w : World) (base : Nat) (ts tp : TypeId) (A : Option Addr) (n c : Nat) (L : List Su) (R : Nat → Bool → Value) (cs : List Value) : Prop where
  len : L.length = n
  own : w.ownsRow base ts 3 (.slice A n c) n cs
  cell : ∀ i, i < n → cs[i * 3]? = some (.int .i64 (gS L i).f) ∧ cs[i * 3 + 1]? = some (R i false) ∧ cs[i * 3 + 2]? = some (R i true)
  row : ∀ i b, i < n → w.ownsRow base tp 2 (R i b) (lsB (gS L i) b).length (prC (lsB (gS L i) b))
  dif : ∀ i j a b, i < n → j < n → (i ≠ j ∨ a ≠ b) → ∀ g, (R i a).ownBlock = some g → (R j b).ownBlock ≠ some g
section
variable {w w' : World} {base n c : Nat} {ts tp : TypeId} {A : Option Addr} {L : List Su} {R : Nat → Bool → Value} {cs : List Value}
theorem SmO.nil (w : World) (base : Nat) (ts tp : TypeId) (R : Nat → Bool → Value) : SmO w base ts tp none 0 0 [] R [] :=
  ⟨rfl, World.ownsRow_nil _ _ _ _, fun i hi => absurd hi (by omega), fun i _ hi => absurd hi (by omega), fun i _ _ _ hi => absurd hi (by omega)⟩
theorem SmO.cslen (h : SmO w base ts tp A n c L R cs) : cs.length = n * 3 := h.own.1
theorem SmO.kept {X : List Nat} (h : SmO w base ts tp A n c L R cs) (hk : Kept X w w') (hA : ∀ g, (Value.slice A n c).ownBlock = some g → g ∉ X) (hR : ∀ i b g, i < n → (R i b).ownBlock = some g → g ∉ X) : SmO w' base ts tp A n c L R cs :=
  ⟨h.len, own_keptT h.own hk hA, h.cell, fun i b hi => own_keptT (h.row i b hi) hk (fun g hg => hR i b g hi hg), h.dif⟩
theorem SmO.keep (h : SmO w base ts tp A n c L R cs) (hk : Kept [] w w') : SmO w' base ts tp A n c L R cs := h.kept hk (by simp) (by simp)
theorem SmO.apart (h : SmO w base ts tp A n c L R cs) (hne : ts ≠ tp) {i : Nat} {b : Bool} {g k : Nat} (hi : i < n) (hg : (R i b).ownBlock = some g) (hk : (Value.slice A n c).ownBlock = some k) : g ≠ k :=
  (own_tag (h.row i b hi) hg).ne (own_tag h.own hk) (fun e => hne e.symm)
theorem SmO.sm (h : SmO w base ts tp A n c L R cs) : SmW w A n L :=
  ⟨h.len, fun h0 => by
    obtain ⟨g, c', hv, hb, hg, hc, -, hcell, -⟩ := own_cellsT h.own h0
    injection hv with e1 e2 e3
    subst e1
    refine ⟨g, 0, rfl, hg, fun i hi => ?_⟩
    obtain ⟨k0, k1, k2⟩ := h.cell i hi
    obtain ⟨E, ce, e0⟩ := own_shape (h.row i false hi)
    obtain ⟨T, ct, e1⟩ := own_shape (h.row i true hi)
    have r0 := h.row i false hi
    have r1 := h.row i true hi
    rw [e0] at r0
    rw [e1] at r1
    rw [Nat.zero_add, hcell _ (by omega), hcell _ (by omega), hcell _ (by omega), k0, k1, k2, e0, e1]
    exact ⟨E, _, ce, T, _, ct, rfl, rfl, rfl, (Prs.ofOwn r0).1, (Prs.ofOwn r1).1⟩⟩
/-- A summary more. -/
theorem SmO.push (h : SmO w base ts tp A n c L R cs) (hne : ts ≠ tp) {A' : Option Addr} {c' : Nat} {v0 v1 : Value} {u : Su} {cs' : List Value} (hcs : cs' = cs ++ [.int .i64 u.f, v0, v1])
    (hown : w'.ownsRow base ts 3 (.slice A' (n + 1) c') (n + 1) cs') (hk : Kept (Value.slice A n c).ownBlock.toList w w')
    (h0 : w.ownsRow base tp 2 v0 u.x.length (prC u.x)) (h1 : w.ownsRow base tp 2 v1 u.y.length (prC u.y))
    (hd : ∀ i b, i < n → ∀ g, (R i b).ownBlock = some g → v0.ownBlock ≠ some g ∧ v1.ownBlock ≠ some g) (hd1 : ∀ g, v0.ownBlock = some g → v1.ownBlock ≠ some g) :
    SmO w' base ts tp A' (n + 1) c' (L ++ [u]) (fun i b => if i = n then (if b then v1 else v0) else R i b) cs' := by
  subst hcs
  have hl := h.cslen
  have hgl : ∀ i, i < n → gS (L ++ [u]) i = gS L i := fun i hi => gS_app (by rw [h.len]; exact hi)
  have hgn : gS (L ++ [u]) n = u := by rw [← h.len]; exact gS_at
  have hX : ∀ {v : Value} {m : Nat} {xs : List Value}, w.ownsRow base tp 2 v m xs → w'.ownsRow base tp 2 v m xs := fun {v m xs} hv => own_keptT hv hk (fun g hg hm => by
    have hm : (Value.slice A n c).ownBlock = some g := by simpa using hm
    exact (own_tag hv hg).ne (own_tag h.own hm) (fun e => hne e.symm) rfl)
  refine ⟨by rw [List.length_append, h.len]; rfl, hown, fun i hi => ?_, fun i b hi => ?_, fun i j a b hi hj hij => ?_⟩
  · by_cases e : i = n
    · subst e
      rw [if_pos rfl, if_pos rfl, hgn, List.getElem?_append_right (by omega), List.getElem?_append_right (by omega), List.getElem?_append_right (by omega), hl]
      simp
    · obtain ⟨k0, k1, k2⟩ := h.cell i (by omega)
      rw [if_neg e, if_neg e, hgl i (by omega), List.getElem?_append_left (by omega), List.getElem?_append_left (by omega), List.getElem?_append_left (by omega)]
      exact ⟨k0, k1, k2⟩
  · by_cases e : i = n
    · subst e
      rw [if_pos rfl, hgn]
      cases b with
      | false => exact hX h0
      | true => exact hX h1
    · rw [if_neg e, hgl i (by omega)]
      exact hX (h.row i b (by omega))
  · by_cases ei : i = n
    · by_cases ej : j = n
      · rw [if_pos ei, if_pos ej]
        cases a <;> cases b
        · rcases hij with h9 | h9
          · exact absurd (ei.trans ej.symm) h9
          · exact absurd rfl h9
        · exact hd1
        · exact fun g hg h9 => hd1 g h9 hg
        · rcases hij with h9 | h9
          · exact absurd (ei.trans ej.symm) h9
          · exact absurd rfl h9
      · rw [if_pos ei, if_neg ej]
        intro g hg h9
        have := hd j b (by omega) g h9
        cases a
        · exact this.1 hg
        · exact this.2 hg
    · by_cases ej : j = n
      · rw [if_neg ei, if_pos ej]
        intro g hg
        have := hd i a (by omega) g hg
        cases b
        · exact this.1
        · exact this.2
      · rw [if_neg ei, if_neg ej]
        exact h.dif i j a b (by omega) (by omega) hij
/-- All but the last. -/
theorem SmO.init {A' : Option Addr} {n' c' : Nat} (h : SmO w base ts tp A n c L R cs) (hn : n = n' + 1) (hk : Kept [] w w') (hown : w'.ownsRow base ts 3 (.slice A' n' c') n' (cs.take (n' * 3))) : SmO w' base ts tp A' n' c' L.dropLast R (cs.take (n' * 3)) := by
  subst hn
  have hl := h.cslen
  have hgl : ∀ i, i < n' → gS L.dropLast i = gS L i := fun i hi => by
    have h9 := h.len
    unfold gS
    rw [List.getD_eq_getElem?_getD, List.getD_eq_getElem?_getD, List.getElem?_dropLast, if_pos (by omega)]
  refine ⟨by rw [List.length_dropLast, h.len]; rfl, hown, fun i hi => ?_, fun i b hi => ?_, fun i j a b hi hj => h.dif i j a b (by omega) (by omega)⟩
  · obtain ⟨k0, k1, k2⟩ := h.cell i (by omega)
    rw [hgl i hi, List.getElem?_take_of_lt (by omega), List.getElem?_take_of_lt (by omega), List.getElem?_take_of_lt (by omega)]
    exact ⟨k0, k1, k2⟩
  · rw [hgl i hi]
    exact own_keptT (h.row i b (by omega)) hk (by simp)
def updB (u : Su) (l : List Pr) : Bool → Su
  | false => ⟨u.f, l, u.y⟩
  | true => ⟨u.f, u.x, l⟩
def updR (R : Nat → Bool → Value) (n : Nat) (b : Bool) (v : Value) : Nat → Bool → Value := fun i a => if i = n ∧ a = b then v else R i a
def offB : Bool → Nat
  | false => 1
  | true => 2
/-- The last one's row is another one now. -/
theorem SmO.put {g n' : Nat} {w1 : World} (h : SmO w base ts tp (some ⟨g, 0, none⟩) n c L R cs) (hne : ts ≠ tp) (hn : n = n' + 1) (b : Bool) {v : Value} {l : List Pr} {k : Nat} (hk : Kept (R n' b).ownBlock.toList w w1)
    (hv : w1.ownsRow base tp 2 v l.length (prC l)) (hnew : ∀ x, v.ownBlock = some x → (R n' b).ownBlock = some x ∨ w.heap.size ≤ x) (hkk : k = n' * 3 + offB b) :
    SmO (w1.setCell ⟨g, k, none⟩ v) base ts tp (some ⟨g, 0, none⟩) n c (L.dropLast ++ [updB (gS L n') l b]) (updR R n' b v) (cs.set k v) := by
  subst hn hkk
  have hl := h.cslen
  have hdl : L.dropLast.length = n' := by rw [List.length_dropLast, h.len]; rfl
  have hgl : ∀ i, i < n' → gS (L.dropLast ++ [updB (gS L n') l b]) i = gS L i := fun i hi => by
    rw [gS_app (by omega)]
    have h9 := h.len
    unfold gS
    rw [List.getD_eq_getElem?_getD, List.getD_eq_getElem?_getD, List.getElem?_dropLast, if_pos (by omega)]
  have hgn : gS (L.dropLast ++ [updB (gS L n') l b]) n' = updB (gS L n') l b := by
    have h9 := gS_at (M := L.dropLast) (R := []) (u := updB (gS L n') l b)
    rw [hdl] at h9
    exact h9
  have hgA : (Value.slice (some ⟨g, 0, none⟩) (n' + 1) c).ownBlock = some g := rfl
  have tg : Tag w g ts := own_tag h.own hgA
  have hg0 : g ∉ (R n' b).ownBlock.toList := fun hm => h.apart hne (i := n') (b := b) (by omega) (by simpa using hm) hgA rfl
  have ownA : w1.ownsRow base ts 3 (.slice (some ⟨g, 0, none⟩) (n' + 1) c) (n' + 1) cs := own_keptT h.own hk (fun x hx => by
    obtain rfl : g = x := by simpa [Value.ownBlock] using hx
    exact hg0)
  have tg1 : Tag w1 g ts := own_tag ownA hgA
  have hset : ∀ {v' : Value} {m : Nat} {xs : List Value}, w1.ownsRow base tp 2 v' m xs → (w1.setCell ⟨g, n' * 3 + offB b, none⟩ v).ownsRow base tp 2 v' m xs := fun {v' m xs} hv' => ownsRow_setCell_other hv' (by
    intro h9
    exact (own_tag hv' h9).ne tg1 (fun e => hne e.symm) rfl) _
  have hrow : ∀ i a, i < n' + 1 → ¬ (i = n' ∧ a = b) → w1.ownsRow base tp 2 (R i a) (lsB (gS L i) a).length (prC (lsB (gS L i) a)) := fun i a hi hia => own_keptT (h.row i a hi) hk (fun x hx hm => by
    refine h.dif i n' a b hi (by omega) ?_ x hx (by simpa using hm)
    by_cases e : i = n'
    · exact .inr fun e2 => hia ⟨e, e2⟩
    · exact .inl e)
  refine ⟨by rw [List.length_append, hdl]; rfl, own_put ownA v, fun i hi => ?_, fun i a hi => ?_, fun i j a a' hi hj hij => ?_⟩
  · obtain ⟨k0, k1, k2⟩ := h.cell i hi
    have hfe : (gS (L.dropLast ++ [updB (gS L n') l b]) i).f = (gS L i).f := by
      by_cases e : i = n'
      · subst e; rw [hgn]; cases b <;> rfl
      · rw [hgl i (by omega)]
    unfold updR
    rw [hfe]
    by_cases e : i = n'
    · subst e
      cases b
      · rw [show offB false = 1 from rfl, List.getElem?_set_ne (by omega), List.getElem?_set_self (by omega), List.getElem?_set_ne (by omega)]
        exact ⟨k0, by simp, by simpa using k2⟩
      · rw [show offB true = 2 from rfl, List.getElem?_set_ne (by omega), List.getElem?_set_ne (by omega), List.getElem?_set_self (by omega)]
        exact ⟨k0, by simpa using k1, by simp⟩
    · have ho : offB b = 1 ∨ offB b = 2 := by cases b <;> simp [offB]
      rw [List.getElem?_set_ne (by omega), List.getElem?_set_ne (by omega), List.getElem?_set_ne (by omega), if_neg (fun h9 => e h9.1), if_neg (fun h9 => e h9.1)]
      exact ⟨k0, k1, k2⟩
  · unfold updR
    by_cases e : i = n' ∧ a = b
    · obtain ⟨rfl, rfl⟩ := e
      rw [if_pos ⟨rfl, rfl⟩, hgn]
      have e9 : lsB (updB (gS L i) l a) a = l := by cases a <;> rfl
      rw [e9]
      exact hset hv
    · rw [if_neg e]
      have e9 : lsB (gS (L.dropLast ++ [updB (gS L n') l b]) i) a = lsB (gS L i) a := by
        by_cases ei : i = n'
        · subst ei
          rw [hgn]
          cases a <;> cases b <;> first | rfl | exact absurd ⟨rfl, rfl⟩ e
        · rw [hgl i (by omega)]
      rw [e9]
      exact hset (hrow i a hi e)
  · unfold updR
    by_cases e1 : i = n' ∧ a = b
    · have e2 : ¬ (j = n' ∧ a' = b) := fun e2 => by
        rcases hij with h9 | h9
        · exact h9 (e1.1.trans e2.1.symm)
        · exact h9 (e1.2.trans e2.2.symm)
      rw [if_pos e1, if_neg e2]
      intro x hx h9
      rcases hnew x hx with h8 | h8
      · refine h.dif n' j b a' (by omega) hj ?_ x h8 h9
        by_cases e : n' = j
        · exact .inr fun e3 => e2 ⟨e.symm, e3.symm⟩
        · exact .inl e
      · have := (own_blk (h.row j a' hj) h9).2
        omega
    · rw [if_neg e1]
      by_cases e2 : j = n' ∧ a' = b
      · rw [if_pos e2]
        intro x hx h9
        rcases hnew x h9 with h8 | h8
        · refine h.dif i n' a b hi (by omega) ?_ x hx h8
          by_cases e : i = n'
          · exact .inr fun e3 => e1 ⟨e, e3⟩
          · exact .inl e
        · have := (own_blk (h.row i a hi) hx).2
          omega
      · rw [if_neg e2]
        exact h.dif i j a a' hi hj hij
end
end If
end Go.Df
namespace Go.Df
open Go.RowKit
theorem new2P (w : World) (b : Nat) (u v : Value) (t : TypeId) (hb : b = w.heap.size) : Rd (w.alloc (.cells #[u, v] t)) 2 (some ⟨b, 0, none⟩) 1 [u, v] := by
  subst hb
  refine ⟨rfl, fun _ => ⟨_, _, rfl, by simp, fun j _ => ?_⟩⟩
  rw [World.cell?_alloc_new, Nat.zero_add]; simp
theorem new3P (w : World) (b : Nat) (u v x : Value) (t : TypeId) (hb : b = w.heap.size) : Rd (w.alloc (.cells #[u, v, x] t)) 3 (some ⟨b, 0, none⟩) 1 [u, v, x] := by
  subst hb
  refine ⟨rfl, fun _ => ⟨_, _, rfl, by simp, fun j _ => ?_⟩⟩
  rw [World.cell?_alloc_new, Nat.zero_add]; simp
namespace If
theorem Prs.rd {w : World} {A : Option Addr} {n : Nat} {l : List Pr} (h : Prs w A n l) : Rd w 2 A n (prC l) := by
  refine ⟨by rw [prC_len, h.1], fun hn => ?_⟩
  obtain ⟨b, o, e, hl, hc⟩ := h.2 hn
  refine ⟨b, o, e, hl, fun j hj => ?_⟩
  have hd := h.1
  obtain ⟨h1, h2⟩ := hc (j / 2) (by omega)
  obtain ⟨g1, g2⟩ := prC_get (l := l) (i := j / 2) (by omega)
  rcases Nat.mod_two_eq_zero_or_one j with hm | hm
  · have e1 : j / 2 * 2 = j := by omega
    rw [e1] at h1 g1
    rw [h1, g1]
  · have e1 : j / 2 * 2 + 1 = j := by omega
    rw [Nat.add_assoc, e1] at h2
    rw [e1] at g2
    rw [h2, g2]
theorem prC_cells (l : List Pr) : ∀ u ∈ prC l, u.oneCell' = true := by
  intro u hu
  unfold prC at hu
  obtain ⟨p, -, hp⟩ := List.mem_flatMap.1 hu
  simp at hp
  rcases hp with rfl | rfl <;> rfl
theorem SmO.rd {w : World} {base n m c : Nat} {ts tp : TypeId} {A : Option Addr} {L : List Su} {R : Nat → Bool → Value} {cs : List Value} (h : SmO w base ts tp A n c L R cs) (hm : m ≤ n) : Rd w 3 A m (cs.take (m * 3)) := by
  have hl := h.cslen
  refine ⟨by rw [List.length_take]; omega, fun h0 => ?_⟩
  obtain ⟨g, c', hv, hb, hg, hc, -, hcell, -⟩ := own_cellsT h.own (by omega)
  injection hv with e1 e2 e3
  subst e1
  refine ⟨g, 0, rfl, hg, fun j hj => ?_⟩
  rw [Nat.zero_add, hcell j (by omega), List.getElem?_take_of_lt hj]
theorem SmO.cells {w : World} {base n c : Nat} {ts tp : TypeId} {A : Option Addr} {L : List Su} {R : Nat → Bool → Value} {cs : List Value} (h : SmO w base ts tp A n c L R cs) : ∀ u ∈ cs, u.oneCell' = true := by
  intro u hu
  obtain ⟨j, hj, rfl⟩ := List.getElem_of_mem hu
  have hl := h.cslen
  have hi : j / 3 < n := by omega
  obtain ⟨k0, k1, k2⟩ := h.cell (j / 3) hi
  have e9 : cs[j]? = some cs[j] := List.getElem?_eq_getElem hj
  have ho : j = j / 3 * 3 ∨ j = j / 3 * 3 + 1 ∨ j = j / 3 * 3 + 2 := by omega
  obtain ⟨E, ce, e0⟩ := own_shape (h.row (j / 3) false hi)
  obtain ⟨T, ct, e1⟩ := own_shape (h.row (j / 3) true hi)
  rcases ho with e | e | e
  · rw [← e, e9] at k0
    rw [Option.some.inj k0]
    rfl
  · rw [← e, e9, e0] at k1
    rw [Option.some.inj k1]
    rfl
  · rw [← e, e9, e1] at k2
    rw [Option.some.inj k2]
    rfl
end If
end Go.Df
namespace Go.Proofs.YtooejoajojanjaaGreatDoor
open Go.RowKit Go.Df Go.Df.If
attribute [local go_sem ↓] Go.wp_at_zero Go.wp_at_succ
theorem pairf_info : (Tryz.prog.info? 72).map (fun i => (i.zero, i.size, i.bytes)) = some (some (.agg #[.int .i64 0, .int .i64 0]), 2, 16) := by kernel_rfl
theorem sumf_info : (Tryz.prog.info? 30).map (fun i => (i.zero, i.size, i.bytes)) = some (some (.agg #[.int .i64 0, .slice none 0 0, .slice none 0 0]), 3, 56) := by kernel_rfl
set_option maxRecDepth 100000 in
set_option maxHeartbeats 4000000 in
theorem rmore_any (A : Option Addr) (n c : Nat) (l : List Pr) (a b : Int) (w : World) (hP : Prs w A n l) (hn : n ≤ 100000) :
    Calls Tryz.prog 84 #[.slice A n c, .int .i64 a, .int .i64 b] w fun e w' => ∃ B cB, e = .returned (.slice B (n + 1) cB) ∧ w'.ownsRow w.heap.size 72 2 (.slice B (n + 1) cB) (n + 1) (prC (l ++ [⟨a, b⟩])) ∧ Kept [] w w' := by
  obtain ⟨i1, hj, hy0, hy1, hy2⟩ := info_parts pairf_info
  have HR := Lib.hid hP.rd
  have HA : Hid (A = none → n = 0) := Lib.hid (fun e => by
    rcases Nat.eq_zero_or_pos n with h | h
    · exact h
    · obtain ⟨b, o, e2, _⟩ := hP.2 h
      rw [e] at e2; cases e2)
  have HAP := Lib.hid (prC_snoc l a b)
  clear hP
  go_enter Tryz.func84, Tryz.ntmps84
  -- MARK1
  go_upto_region 3 with (at_builtin; refine wpList_append_rd _ rfl _ _ 28 rfl w.heap.size 72 i1 (.agg #[.int .i64 0, .int .i64 0]) 2 16 Tryz.underlying28 hj hy0 hy1 hy2 rfl (by decide) (.slice none 0 0) 0 [] rfl (World.ownsRow_nil _ _ _ _) A n c (prC l) rfl HR.out HA.out (prC_cells l) n (by omega) _ (List.nil_append _) (by unfold maxLen; omega) (by omega) (Nat.le_refl _) ?_; intro A2 c2 w2 hown2 hk2 hat2; have HO2 := Lib.hid hown2; have HK2 : Hid (Kept [] w w2) := Lib.hid hk2; clear hown2 hk2 hat2)
  have HX : Hid (∀ y ∈ (Value.slice A2 n c2).ownBlock.toList, w.heap.size ≤ y) := (fun y hy => own_ge HO2.out (by simpa using hy))
  have hs2 := HK2.out.size
  -- MARK2
  go_wp2_with (at_builtin; refine wpList_append_rd _ rfl _ _ 28 rfl w.heap.size 72 i1 (.agg #[.int .i64 0, .int .i64 0]) 2 16 Tryz.underlying28 hj hy0 hy1 hy2 rfl (by decide) (.slice A2 n c2) n _ rfl (own_keptT (X := []) HO2.out ((Kept.refl _ _).alloc _) (by simp)) (some ⟨w2.heap.size, 0, none⟩) 1 1 [.int .i64 a, .int .i64 b] rfl (new2P _ _ _ _ _ rfl) (fun h => by cases h) (by intro u hu; simp at hu; rcases hu with rfl | rfl <;> rfl) (n + 1) rfl _ HAP.out (by unfold maxLen; omega) (by omega) (by simp; omega) ?_; intro A9 c9 w9 hown4 hk4 hat4; have hk5 := Lib.hid ((HK2.out.alloc (.cells #[.int .i64 a, .int .i64 b] 72)).next hk4 (fun y hy => Or.inr (HX.out y hy))); have HO4 := Lib.hid hown4; clear hown4 hk4 hat4)
  go_ret
  exact ⟨A9, c9, rfl, HO4.out, hk5.out⟩
set_option maxRecDepth 100000 in
set_option maxHeartbeats 4000000 in
theorem rlast_any (base : Nat) (A : Option Addr) (n c : Nat) (L : List Su) (R : Nat → Bool → Value) (cs : List Value) (w : World) (hS : SmO w base 30 72 A (n + 1) c L R cs) (hn : n ≤ 100000) :
    Calls Tryz.prog 83 #[.slice A (n + 1) c] w fun e w' => ∃ B cB, e = .returned (.tuple #[.slice B n cB, .agg #[.int .i64 (gS L n).f, R n false, R n true]]) ∧ w'.ownsRow w.heap.size 30 3 (.slice B n cB) n (cs.take (n * 3)) ∧ Kept [] w w' := by
  obtain ⟨i1, hj, hy0, hy1, hy2⟩ := info_parts sumf_info
  have HS := Lib.hid hS
  have HR := Lib.hid (hS.rd (m := n) (by omega))
  have HC1 : Hid (∀ u ∈ cs.take (n * 3), u.oneCell' = true) := Lib.hid (fun u hu => hS.cells u (List.mem_of_mem_take hu))
  obtain ⟨g, cc, hv, -, hg, hnc, -, hcell, -⟩ := own_cellsT hS.own (by omega)
  injection hv with e1 e2 e3
  subst e1
  subst e3
  obtain ⟨k0, k1, k2⟩ := hS.cell n (by omega)
  have h0 := (hcell (n * 3) (by omega)).trans k0
  have h1 := (hcell (n * 3 + 1) (by omega)).trans k1
  have h2 := (hcell (n * 3 + 2) (by omega)).trans k2
  obtain ⟨f, hf⟩ : ∃ f, (gS L n).f = f := ⟨_, rfl⟩
  obtain ⟨E0, m0, d0, hv0⟩ : ∃ A m c, R n false = .slice A m c := (let ⟨A, c, e⟩ := own_shape (hS.row n false (by omega)); ⟨A, _, c, e⟩)
  obtain ⟨E1, m1, d1, hv1⟩ : ∃ A m c, R n true = .slice A m c := (let ⟨A, c, e⟩ := own_shape (hS.row n true (by omega)); ⟨A, _, c, e⟩)
  rw [hf] at h0
  rw [hv0] at h1
  rw [hv1] at h2
  rw [hf, hv0, hv1]
  clear hS hcell k0 k1 k2 hf hv0 hv1
  have hwn : IntKind.i64.wrap (n : Int) = (n : Int) := IntWalk.i64_in _ (by omega)
  have y1 : (0 : Int) ≤ (n : Int) := by omega
  have y2 : (n : Int) < (n : Int) + 1 := by omega
  have y3 : (n : Int).toNat = n := by omega
  go_enter Tryz.func83, Tryz.ntmps83
  -- MARK3
  go_upto_region 1 with fail
  refine wp_named (fun V => ∃ b, w.heap.size = b ∧ Blk V b [.int .i64 0, .slice none 0 0, .slice none 0 0] ∧ Kept [] w V) ⟨_, rfl, Blk.new _ _ _ _ rfl, (Kept.refl _ _).alloc _⟩ ?_
  rintro V ⟨b, eb, B1, hkV⟩
  rw [eb]
  have HRV := Lib.hid (HR.out.kept hkV)
  have hgV : g < V.heap.size := Nat.lt_of_lt_of_le hg hkV.size
  have hbV : b < V.heap.size := B1.1
  -- MARK4
  go_upto_region 3 with (at_builtin; refine wpList_append_rd _ rfl _ _ 22 rfl w.heap.size 30 i1 (.agg #[.int .i64 0, .slice none 0 0, .slice none 0 0]) 3 56 Tryz.underlying22 hj hy0 hy1 hy2 rfl (by decide) (.slice none 0 0) 0 [] rfl (World.ownsRow_nil _ _ _ _) (some ⟨g, 0, none⟩) n c (cs.take (n * 3)) rfl HRV.out (fun e => by cases e) HC1.out n (by omega) _ (List.nil_append _) (by unfold maxLen; omega) (by omega) (by omega) ?_; intro A2 c2 w2 hown2 hk2 hat2; have HO2 := Lib.hid hown2; have HK2 : Hid (Kept [] V w2) := Lib.hid hk2; have HAT := Lib.hid hat2; clear hown2 hk2 hat2)
  -- MARK5
  have hk2 := HK2.out
  have B2 := hk2.blk (by simp) B1
  have ⟨LB, CB, FB⟩ := B2
  have hg2 : g < w2.heap.size := Nat.lt_of_lt_of_le hgV hk2.size
  have q0 := (hk2.cell g (n * 3) hgV (by simp)).trans ((hkV.cell g (n * 3) hg (by simp)).trans h0)
  have q1 := (hk2.cell g (n * 3 + 1) hgV (by simp)).trans ((hkV.cell g (n * 3 + 1) hg (by simp)).trans h1)
  have q2 := (hk2.cell g (n * 3 + 2) hgV (by simp)).trans ((hkV.cell g (n * 3 + 2) hg (by simp)).trans h2)
  have HKW : Hid (Kept [] w w2) := Lib.hid (keptTrans hkV hk2)
  clear h0 h1 h2 B1 hkV HRV
  refine wp_region_E 8 (fun w' => SX0 w2 w') (by kernel_rfl) (by (repeat' first | (with_reducible assumption) | (with_reducible exact SX0.init _) | (with_reducible exact SX0.refl _) | (with_reducible refine SX0.alloc ?_ _) | (with_reducible refine SX0.call ?_ (by assumption)) | (with_reducible refine SX0.set ?_ _ _ _ ?_) | (with_reducible refine SX0.drew ?_) | (simp; done) | omega | (simp; omega))) (fun hHeld => ?_)
  refine WE_take 0 (v := ?_) rfl (by kernel_rfl) (fun _ _ _ h => h) (Or.inl ⟨by rfl, ?_⟩) (by assumption) ?_; rotate_left; (· intro w9 hSw; (try dsimp only at hSw); go_simp; try with_reducible rfl); (try simp only [Act.put, List.setIfInBounds_toArray, List.set_cons_zero, List.set_cons_succ])
  refine WE_take 1 (v := ?_) rfl (by kernel_rfl) (fun _ _ _ h => h) (Or.inl ⟨by rfl, ?_⟩) (by assumption) ?_; rotate_left; (· intro w9 hSw; (try dsimp only at hSw); go_simp; try with_reducible rfl); (try simp only [Act.put, List.setIfInBounds_toArray, List.set_cons_zero, List.set_cons_succ])
  refine WE_take 2 (v := ?_) rfl (by kernel_rfl) (fun _ _ _ h => h) (Or.inl ⟨by rfl, ?_⟩) (by assumption) ?_; rotate_left; (· intro w9 hSw; (try dsimp only at hSw); go_simp; try with_reducible rfl); (try simp only [Act.put, List.setIfInBounds_toArray, List.set_cons_zero, List.set_cons_succ])
  refine WE_take 3 (v := ?_) rfl (by kernel_rfl) (fun _ _ _ h => h) (Or.inl ⟨by rfl, ?_⟩) (by assumption) ?_; rotate_left; (· intro w9 hSw; (try dsimp only at hSw); go_simp; try with_reducible rfl); (try simp only [Act.put, List.setIfInBounds_toArray, List.set_cons_zero, List.set_cons_succ])
  refine WE_take 4 (v := ?_) rfl (by kernel_rfl) (fun _ _ _ h => h) (Or.inl ⟨by rfl, ?_⟩) (by assumption) ?_; rotate_left; (· intro w9 hSw; (try dsimp only at hSw); go_simp; try with_reducible rfl); (try simp only [Act.put, List.setIfInBounds_toArray, List.set_cons_zero, List.set_cons_succ])
  refine WE_take 5 (v := ?_) rfl (by kernel_rfl) (fun _ _ _ h => h) (Or.inl ⟨by rfl, ?_⟩) (by assumption) ?_; rotate_left; (· intro w9 hSw; (try dsimp only at hSw); go_simp; try with_reducible rfl); (try simp only [Act.put, List.setIfInBounds_toArray, List.set_cons_zero, List.set_cons_succ])
  refine WE_take 6 (v := ?_) rfl (by kernel_rfl) (fun _ _ _ h => h) (Or.inl ⟨by rfl, ?_⟩) (by assumption) ?_; rotate_left; (· intro w9 hSw; (try dsimp only at hSw); go_simp; try with_reducible rfl); (try simp only [Act.put, List.setIfInBounds_toArray, List.set_cons_zero, List.set_cons_succ])
  refine WE_take 7 (v := ?_) rfl (by kernel_rfl) (fun _ _ _ h => h) (Or.inl ⟨by rfl, ?_⟩) (by assumption) ?_; rotate_left; (· intro w9 hSw; (try dsimp only at hSw); go_simp; try with_reducible rfl); (try simp only [Act.put, List.setIfInBounds_toArray, List.set_cons_zero, List.set_cons_succ])
  refine WE_last rfl (by kernel_rfl) (fun K hK => ?_)
  go_simp
  refine hK.out _ _ ?_
  clear hK K
  -- MARK6
  refine then_named (fun X => Blk X b [.int .i64 f, .slice E0 m0 d0, .slice E1 m1 d1] ∧ Kept [b] w2 X) ⟨(Blk.set3 (B2.n rfl)).drew, (((Kept.refl [b] w2).set b 0 _ (.inl (by simp))).set b 1 _ (.inl (by simp))).set b 2 _ (.inl (by simp)) |>.drew⟩ ?_
  rintro X ⟨BX, hkX⟩
  have ⟨LX, CX, FX⟩ := BX
  go_wp2_with fail
  refine bodyPost_ret (by simp [results, Tryz.results83, go_sem, CX]; rfl) rfl ?_
  have HO3 := HO2.out
  rw [eb] at HO3
  refine ⟨A2, c2, rfl, own_keptT HO3 hkX (fun x hx hm => ?_), HKW.out.next hkX (fun y hy => .inr ?_)⟩
  · obtain rfl : x = b := by simpa using hm
    rcases HAT.out x hx with h9 | h9
    · cases h9
    · omega
  · obtain rfl : y = b := by simpa using hy
    omega
end Go.Proofs.YtooejoajojanjaaGreatDoor
