/- Texts: Bj Ck Bk. -/
import Derived.Test.YtincpmdldpakkaaDoorCs06
import Derived.Test.YtincpmdldpakkaaDoorCs10
import Derived.Test.YtincpmdldpakkaaDoorCs11
import Derived.Test.YtincpmdldpakkaaDoorCs13
import Derived.Test.YtincpmdldpakkaaDoorCs07
namespace Go.Df
open Go.RowKit
namespace Iv
open Sp
structure Kn where
  (A1 A2 A3 A4 : Option Addr)
  (n1 c1 n2 c2 n3 c3 n4 c4 sb ro rc rl rr rs er pr : Nat)
  tr : Nat → Nat
  em : Nat → Option Nat
  ec : Nat → Nat
  ev : Nat → Value → Value
structure Gh where
  m : Nat → Nat → Option Nat
  c : Nat → Nat → Nat
  jv : Nat → Value → Value
  wv : Nat → Nat → Value → Value
  vv : Nat → Value → Value
  pv : Nat → Value
  (qA rA : Option Addr)
  (qn qc rc : Nat)
def sbox (p : Vb) (K : Kn) (G : Gh) : List Value :=
  [.slice K.A1 K.n1 K.c1, .slice K.A2 K.n2 K.c2, .int .i64 p.mn, .int .i64 p.F, .slice K.A3 K.n3 K.c3, .slice K.A4 K.n4 K.c4, .slice (some ⟨K.sb, 0, none⟩) K.n1 K.n1, .slice (some ⟨K.ro, 0, none⟩) K.n1 K.n1, .slice (some ⟨K.rc, 0, none⟩) K.n1 K.n1, .slice (some ⟨K.rl, 0, none⟩) K.n1 K.n1, .slice (some ⟨K.rr, 0, none⟩) K.n1 K.n1, .slice (some ⟨K.rs, 0, none⟩) K.n1 K.n1,
   .slice (some ⟨K.tr 0, 0, none⟩) K.n1 K.n1, .slice (some ⟨K.tr 1, 0, none⟩) K.n1 K.n1, .slice (some ⟨K.tr 2, 0, none⟩) K.n1 K.n1, .slice (some ⟨K.er, 0, none⟩) K.n2 K.n2, .slice (some ⟨K.tr 3, 0, none⟩) K.n1 K.n1, .slice (some ⟨K.pr, 0, none⟩) K.n1 K.n1, .slice G.rA 0 G.rc, .slice G.qA G.qn G.qc]
def xv (x : D) : Value := .agg #[.int .i64 x.1.k, .int .i64 x.1.b, .int .i64 x.1.c]
def uv (v : U) : Value := .agg #[.int .i64 v.1.k, .int .i64 v.1.n]
theorem xv_inj {x y : D} (h : xv x = xv y) : x = y := by
  unfold xv at h
  simp at h
  obtain ⟨h1, h2, h3⟩ := h
  refine Subtype.ext ?_
  obtain ⟨⟨a, b, c⟩, _⟩ := x
  obtain ⟨⟨a', b', c'⟩, _⟩ := y
  simp at h1 h2 h3
  subst h1 h2 h3
  rfl
theorem uv_inj {x y : U} (h : uv x = uv y) : x = y := by
  unfold uv at h
  simp at h
  obtain ⟨h1, h2⟩ := h
  refine Subtype.ext ?_
  obtain ⟨⟨a, b⟩, _⟩ := x
  obtain ⟨⟨a', b'⟩, _⟩ := y
  simp at h1 h2
  subst h1 h2
  rfl
theorem newD {x y : D} (h : ¬ meet x y = x) {a b c : Int} (e : xv (meet x y) = .agg #[.int .i64 a, .int .i64 b, .int .i64 c]) : ¬ (a = 0 ∧ b = 0 ∧ c = 0) := by
  rintro ⟨rfl, rfl, rfl⟩
  have e1 : meet x y = top := xv_inj e
  have e2 : meet x (meet x y) = meet x y := by rw [← meet_assoc, meet_self]
  rw [e1, meet_top] at e2
  exact h (e1.trans e2.symm)
theorem newU {x y : U} (h : ¬ meetV x y = x) {a b : Int} (e : uv (meetV x y) = .agg #[.int .i64 a, .int .i64 b]) : ¬ (a = 0 ∧ b = 0) := by
  rintro ⟨rfl, rfl⟩
  have e1 : meetV x y = topV := uv_inj e
  have e2 : meetV x (meetV x y) = meetV x y := by rw [← meetV_assoc, meetV_self]
  rw [e1, meetV_top] at e2
  exact h (e1.trans e2.symm)
def pv2 (a d : Nat) : Value := .agg #[.int .i64 (a : Int), .int .i64 (d : Int)]
theorem pv2_inj {a d a' d' : Nat} (h : pv2 a d = pv2 a' d') : a = a' ∧ d = d' := by
  unfold pv2 at h
  injection h with h
  have h1 := congrArg (fun x : Array Value => x[0]?) h
  have h2 := congrArg (fun x : Array Value => x[1]?) h
  simp at h1 h2
  omega
def leavL (p : Vb) (n : Nat) : List Nat := (List.range p.es.length).filter fun k => (ge p.es k).k == 2 && If.stOf p.ns (ge p.es k).a.toNat == n
def entL (p : Vb) (k b : Nat) : List Nat := (List.range (gl p.fl k).length).filter fun i => (gx (gl p.fl k) i).o == (b : Int)
def seedV (p : Vb) (n : Nat) : List Vs := p.sd.filter fun s => s.n == (n : Int)
def VssO (O : Nat → Prop) (w : World) (A : Option Addr) (n : Nat) (l : List Vs) : Prop := Vss w A n l ∧ (0 < n → ∀ a, A = some a → SafeB O w a.block)
theorem VssO.fx {O O' : Nat → Prop} {w w' : World} {A : Option Addr} {n : Nat} {l : List Vs} (h : VssO O w A n l) (f : Fx O O' w w') : VssO O' w' A n l := by
  refine ⟨⟨h.1.1, fun hn => ?_⟩, fun hn a ha => (h.2 hn a ha).fx f⟩
  obtain ⟨b, o, e, hl, hc⟩ := h.1.2 hn
  have hs := h.2 hn _ e
  exact ⟨b, o, e, (hs.fx f).1, fun i hi => ⟨(hs.cell f _).trans (hc i hi).1, (hs.cell f _).trans (hc i hi).2.1, (hs.cell f _).trans (hc i hi).2.2.1, (hs.cell f _).trans (hc i hi).2.2.2⟩⟩
def SnapL (K : Kn) (O : Nat → Prop) (G : Gh) (s : St) (w : World) (A : Option Addr) (n : Nat) (l : List Nat) : Prop :=
  Ints w A n (ofNats l) ∧ (0 < n → ∀ a, A = some a → SafeB O w a.block ∨ ∃ g i m b, a = ⟨g, 0, none⟩ ∧ (i = 1 ∨ i = 2) ∧ m < K.n1 ∧ (G.wv i m (.int .i64 (b : Nat))).ownBlock = some g ∧ ∃ r, s.ls i m b = l ++ r)
structure Fy (K : Kn) (O O' : Nat → Prop) (G G' : Gh) (s s' : St) (w w' : World) : Prop where
  fx : Fx O O' w w'
  sn : ∀ A n l, SnapL K O G s w A n l → SnapL K O' G' s' w' A n l
theorem Fy.refl (K : Kn) (O : Nat → Prop) (G : Gh) (s : St) (w : World) : Fy K O O G G s s w w := ⟨Fx.refl O w, fun _ _ _ h => h⟩
theorem Fy.trans {K : Kn} {O O' O'' : Nat → Prop} {G G' G'' : Gh} {s s' s'' : St} {w w' w'' : World} (h : Fy K O O' G G' s s' w w') (k : Fy K O' O'' G' G'' s' s'' w' w'') : Fy K O O'' G G'' s s'' w w'' := ⟨h.fx.trans k.fx, fun A n l hs => k.sn A n l (h.sn A n l hs)⟩
end Iv
end Go.Df
namespace Go.Proofs.YtincpmdldpakkaaDoor
open Go.RowKit Go.Df Go.Df.Iv Go.Df.Sp
structure Inp (p : Vb) (K : Kn) (w0 : World) : Prop where
  nd : Nds w0 K.A1 K.n1 p.ns
  ed : Eds w0 K.A2 K.n2 p.es
  fl : Fls w0 K.A3 K.n3 p.fl
  sd : Vss w0 K.A4 K.n4 p.sd
  fc : ∀ b o i A n c, K.A3 = some ⟨b, o, none⟩ → i < K.n3 → w0.cell? ⟨b, o + i, none⟩ = some (.slice A n c) → n ≤ c
structure Mem (p : Vb) (K : Kn) (w0 : World) (b : Nat) (O : Nat → Prop) (G : Gh) (w : World) (s : St) : Prop where
  low : Below w0.heap.size w0 w
  og : ∀ x, O x → w0.heap.size ≤ x ∧ x < w.heap.size
  ob : O b
  box : Blk w b (sbox p K G)
  btag : Tag w b 95
  start : SafeB O w K.sb ∧ ∀ i, i < K.n1 → w.cell? ⟨K.sb, i, none⟩ = some (.int .i64 (If.stOf p.ns i : Nat))
  out : RowsC O w K.ro K.n1 (fun i => ofNats (If.outL (pf p) i))
  calls : RowsC O w K.rc K.n1 (fun i => ofNats (If.callL (pf p) i))
  leav : RowsC O w K.rl K.n1 (fun i => ofNats (leavL p i))
  rets : RowsC O w K.rr K.n1 (fun i => ofNats (If.retL (pf p) i))
  seeds : SafeB O w K.rs ∧ ∀ i, i < K.n1 → ∃ A m c, w.cell? ⟨K.rs, i, none⟩ = some (.slice A m c) ∧ VssO O w A m (seedV p i)
  entr : TbL w K.er K.n2 K.em K.ec K.ev
  entO : SafeB O w K.er ∧ ∀ k x, k < K.n2 → K.em k = some x → SafeB O w x
  ents : ∀ k c, k < K.n2 → (ge p.es k).k = 2 → ∃ A m d, K.ev k (.int .i64 (c : Nat)) = .slice A m d ∧ SInO O w A m d (ofNats (entL p k c))
  tj : TbX w (K.tr 0) K.n1 (G.m 0) (G.c 0) G.jv
  tw : ∀ i, i = 1 ∨ i = 2 → TbL w (K.tr i) K.n1 (G.m i) (G.c i) (G.wv i)
  tv : TbV w (K.tr 3) K.n1 (G.m 3) (G.c 3) G.vv
  hj : ∀ n a d, n < K.n1 → G.jv n (pv2 a d) = xv (s.T n a d)
  hv : ∀ n a, n < K.n1 → G.vv n (.int .i64 (a : Nat)) = uv (s.V n a)
  jno : ∀ n key, n < K.n1 → (∀ a d, key ≠ pv2 a d) → G.jv n key = xv top
  hw : ∀ i n a, i = 1 ∨ i = 2 → n < K.n1 → w.ownsRow w0.heap.size 3 1 (G.wv i n (.int .i64 (a : Nat))) (s.ls i n a).length ((ofNats (s.ls i n a)).map (Value.int .i64))
  otr : ∀ i, i < 4 → O (K.tr i)
  opr : O K.pr
  om : ∀ i n x, i < 4 → n < K.n1 → G.m i n = some x → O x
  ow : ∀ i n a x, i = 1 ∨ i = 2 → n < K.n1 → (G.wv i n (.int .i64 (a : Nat))).ownBlock = some x → O x
  opv : ∀ n x, n < K.n1 → (G.pv n).ownBlock = some x → O x
  minj : ∀ i j n m x, i < 4 → j < 4 → n < K.n1 → m < K.n1 → G.m i n = some x → G.m j m = some x → i = j ∧ n = m
  winj : ∀ i n a j m c x, i = 1 ∨ i = 2 → j = 1 ∨ j = 2 → n < K.n1 → m < K.n1 → (G.wv i n (.int .i64 (a : Nat))).ownBlock = some x → (G.wv j m (.int .i64 (c : Nat))).ownBlock = some x → i = j ∧ n = m ∧ a = c
  trne : K.tr 1 ≠ K.tr 2
  prow : ∀ n, n < K.n1 → w.cell? ⟨K.pr, n, none⟩ = some (G.pv n)
  ptag : Tag w K.pr 45
  pown : ∀ n, n < K.n1 → w.ownsRow w0.heap.size 48 2 (G.pv n) (s.pd n).length (pcells (s.pd n))
  dpp : ∀ n n' x, n < K.n1 → n' < K.n1 → (G.pv n).ownBlock = some x → (G.pv n').ownBlock = some x → n = n'
  queue : SInO O w G.qA G.qn G.qc (ofNats s.q)
  rank : SIn w G.rA 0 G.rc []
  cb : ∀ i n, i < 4 → n < K.n1 → G.c i n ≤ s.k i
  pb : ∀ n, n < K.n1 → (s.pd n).length ≤ s.k 4
section
variable {p : Vb} {K : Kn} {w0 : World} {b : Nat} {O O' : Nat → Prop} {G : Gh} {w w' : World} {s : St}
structure Stat (p : Vb) (K : Kn) (w0 : World) (O : Nat → Prop) (w : World) : Prop where
  low : Below w0.heap.size w0 w
  start : SafeB O w K.sb ∧ ∀ i, i < K.n1 → w.cell? ⟨K.sb, i, none⟩ = some (.int .i64 (If.stOf p.ns i : Nat))
  out : RowsC O w K.ro K.n1 (fun i => ofNats (If.outL (pf p) i))
  calls : RowsC O w K.rc K.n1 (fun i => ofNats (If.callL (pf p) i))
  leav : RowsC O w K.rl K.n1 (fun i => ofNats (leavL p i))
  rets : RowsC O w K.rr K.n1 (fun i => ofNats (If.retL (pf p) i))
  seeds : SafeB O w K.rs ∧ ∀ i, i < K.n1 → ∃ A m c, w.cell? ⟨K.rs, i, none⟩ = some (.slice A m c) ∧ VssO O w A m (seedV p i)
  entr : TbL w K.er K.n2 K.em K.ec K.ev
  entO : SafeB O w K.er ∧ ∀ k x, k < K.n2 → K.em k = some x → SafeB O w x
  ents : ∀ k c, k < K.n2 → (ge p.es k).k = 2 → ∃ A m d, K.ev k (.int .i64 (c : Nat)) = .slice A m d ∧ SInO O w A m d (ofNats (entL p k c))
theorem Mem.stat (h : Mem p K w0 b O G w s) : Stat p K w0 O w := ⟨h.low, h.start, h.out, h.calls, h.leav, h.rets, h.seeds, h.entr, h.entO, h.ents⟩
theorem tb_same {P : Program} {k tM : TypeId} {z : Value} {r N : Nat} {m : Nat → Option Nat} {c : Nat → Nat} {v : Nat → Value → Value} (h : Tb P k tM z w r N m c v) (hr : w'.heap[r]? = w.heap[r]?) (hm : ∀ n b, n < N → m n = some b → w'.heap[b]? = w.heap[b]?) : Tb P k tM z w' r N m c v := by
  obtain ⟨cur, h1, h2, h3⟩ := h.row
  exact ⟨⟨cur, hr.trans h1, h2, h3⟩, fun n b hn hb => (h.is n b hn hb).same (hm n b hn hb), h.no, h.inj⟩
theorem Stat.fx (h : Stat p K w0 O w) (f : Fx O O' w w') (hO : ∀ x, O x → w0.heap.size ≤ x) : Stat p K w0 O' w' :=
  { low := f.below h.low hO, start := ⟨h.start.1.fx f, fun i hi => (h.start.1.cell f i).trans (h.start.2 i hi)⟩, out := h.out.fx f, calls := h.calls.fx f, leav := h.leav.fx f, rets := h.rets.fx f,
    seeds := ⟨h.seeds.1.fx f, fun i hi => by
      obtain ⟨A, m, c, h1, h2⟩ := h.seeds.2 i hi
      exact ⟨A, m, c, (h.seeds.1.cell f i).trans h1, h2.fx f⟩⟩,
    entr := tb_same h.entr (h.entO.1.heap f) (fun n x hn hx => (h.entO.2 n x hn hx).heap f), entO := ⟨h.entO.1.fx f, fun k x hk hx => (h.entO.2 k x hk hx).fx f⟩,
    ents := fun k c hk hc => by
      obtain ⟨A, m, d, h1, h2⟩ := h.ents k c hk hc
      exact ⟨A, m, d, h1, h2.fx f⟩ }
theorem Mem.kept (h : Mem p K w0 b O G w s) (hk : Kept [] w w') : Mem p K w0 b O G w' s := by
  have f : Fx O O w w' := .same hk
  have S := h.stat.fx f (fun x hx => (h.og x hx).1)
  exact { h with low := S.low, og := fun x hx => ⟨(h.og x hx).1, Nat.lt_of_lt_of_le (h.og x hx).2 hk.size⟩, box := hk.blk (by simp) h.box, btag := h.btag.same (hk.block b h.btag.lt (by simp)), start := S.start, out := S.out, calls := S.calls, leav := S.leav, rets := S.rets, seeds := S.seeds, entr := S.entr, entO := S.entO, ents := S.ents, tj := h.tj.kept hk (by simp) (by simp), tw := fun i hi => (h.tw i hi).kept hk (by simp) (by simp), tv := h.tv.kept hk (by simp) (by simp), hw := fun i n a hi hn => own_kept2 (h.hw i n a hi hn) hk (by simp), prow := fun n hn => (hk.cell K.pr n h.ptag.lt (by simp)).trans (h.prow n hn), ptag := h.ptag.same (hk.block _ h.ptag.lt (by simp)), pown := fun n hn => own_kept2 (h.pown n hn) hk (by simp), queue := h.queue.fx f, rank := h.rank.kept hk }
theorem Mem.call (h : Mem p K w0 b O G w s) (hb : Below w.heap.size w w') : Mem p K w0 b O G w' s := h.kept ((Kept.refl _ _).call hb)
theorem Mem.eq {s' : St} (h : Mem p K w0 b O G w s) (e : s = s') : Mem p K w0 b O G w s' := e ▸ h
theorem Fy.kept (K : Kn) (O : Nat → Prop) (G : Gh) (s : St) (hk : Kept [] w w') : Fy K O O G G s s w w' :=
  ⟨.same hk, fun _ _ _ hs => ⟨hs.1.kept hk, fun hn a ha => (hs.2 hn a ha).imp (fun h1 => h1.fx (.same hk)) id⟩⟩
theorem Mem.snap (h : Mem p K w0 b O G w s) {i n a : Nat} (hi : i = 1 ∨ i = 2) (hn : n < K.n1) : ∃ A m c, G.wv i n (.int .i64 (a : Nat)) = .slice A m c ∧ m = (s.ls i n a).length ∧ SnapL K O G s w A m (s.ls i n a) := by
  have ho := h.hw i n a hi hn
  obtain ⟨A, c, hv, hin, hnn⟩ := Ints.of_own ho
  refine ⟨A, _, c, hv, rfl, hin, fun h0 x hx => .inr ?_⟩
  rcases ho.2 with ⟨h1, h2⟩ | ⟨g, cap, cur, h1, _⟩
  · omega
  · rw [hv] at h1
    injection h1 with h1 _ _
    rw [h1] at hx
    injection hx with hx
    refine ⟨g, i, n, a, hx.symm, hi, hn, by rw [hv, h1]; rfl, [], by simp⟩
end
end Go.Proofs.YtincpmdldpakkaaDoor
namespace Go.Df
open Go.RowKit
def IntA (w : World) (g n : Nat) (f : Nat → Nat) : Prop := g < w.heap.size ∧ (∀ x, x < n → w.cell? ⟨g, x, none⟩ = some (.int .i64 (f x : Nat))) ∧ ∀ x, w.frozen? ⟨g, x, none⟩ = false
theorem IntA.kept {X : List Nat} {w w' : World} {g n : Nat} {f : Nat → Nat} (h : IntA w g n f) (hk : Kept X w w') (hX : g ∉ X) : IntA w' g n f :=
  ⟨Nat.lt_of_lt_of_le h.1 hk.size, fun x hx => (hk.cell g x h.1 hX).trans (h.2.1 x hx), fun x => (hk.frozen g x h.1 hX).trans (h.2.2 x)⟩
theorem IntA.set {w : World} {g n : Nat} {f : Nat → Nat} (h : IntA w g n f) (i y : Nat) {f' : Nat → Nat} (hf : ∀ x, x < n → f' x = if x = i then y else f x) : IntA (w.setCell ⟨g, i, none⟩ (.int .i64 (y : Nat))) g n f' := by
  refine ⟨by simpa [World.setCell] using h.1, fun x hx => ?_, fun x => by simpa using h.2.2 x⟩
  rw [hf x hx]
  by_cases e : x = i
  · subst e; rw [if_pos rfl]; exact set_same (h.2.1 x hx)
  · rw [if_neg e, set_other (.inr (fun h => e h.symm))]; exact h.2.1 x hx
open Classical in
noncomputable def upd2 {α : Type} (f : Nat → Nat → α) (t i : Nat) (x : α) : Nat → Nat → α := fun t' i' => if t' = t ∧ i' = i then x else f t' i'
theorem upd2_at {α : Type} (f : Nat → Nat → α) (t i : Nat) (x : α) : upd2 f t i x t i = x := by simp [upd2]
theorem upd2_ne {α : Type} {f : Nat → Nat → α} {t i t' i' : Nat} {x : α} (h : ¬ (t' = t ∧ i' = i)) : upd2 f t i x t' i' = f t' i' := by simp [upd2, h]
def rsel5 (a b c d e : Nat) (t : Nat) : Nat := match t with
  | 0 => a
  | 1 => b
  | 2 => c
  | 3 => d
  | _ => e
section
structure Rg (e : Nat → TypeId) (sz : Nat → Nat) (lim : Nat) (w : World) (r : Nat → Nat) (N : Nat) (v : Nat → Nat → Value) (n : Nat → Nat → Nat) (l : Nat → Nat → List Value) : Prop where
  cell : ∀ t i, t < 5 → i < N → w.cell? ⟨r t, i, none⟩ = some (v t i)
  fr : ∀ t i, t < 5 → w.frozen? ⟨r t, i, none⟩ = false
  rlt : ∀ t, t < 5 → r t < lim
  hlim : lim ≤ w.heap.size
  rr : ∀ t t', t < 5 → t' < 5 → r t = r t' → t = t'
  own : ∀ t i, t < 5 → i < N → w.ownsRow lim (e t) (sz t) (v t i) (n t i) (l t i)
  vv : ∀ t i t' i' x, t < 5 → t' < 5 → i < N → i' < N → (v t i).ownBlock = some x → (v t' i').ownBlock = some x → t = t' ∧ i = i'
variable {e : Nat → TypeId} {sz : Nat → Nat} {lim : Nat} {w w1 : World} {r : Nat → Nat} {N : Nat} {v : Nat → Nat → Value} {n : Nat → Nat → Nat} {l : Nat → Nat → List Value}
theorem Rg.kept {X : List Nat} (h : Rg e sz lim w r N v n l) (hk : Kept X w w1) (hX : ∀ x ∈ X, x < lim ∧ ∀ t, t < 5 → x ≠ r t) : Rg e sz lim w1 r N v n l := by
  have hr : ∀ t, t < 5 → r t ∉ X := fun t ht hm => (hX _ hm).2 t ht rfl
  have hrl : ∀ t, t < 5 → r t < w.heap.size := fun t ht => Nat.lt_of_lt_of_le (h.rlt t ht) h.hlim
  exact ⟨fun t i ht hi => (hk.cell (r t) i (hrl t ht) (hr t ht)).trans (h.cell t i ht hi), fun t i ht => (hk.frozen (r t) i (hrl t ht) (hr t ht)).trans (h.fr t i ht), h.rlt, Nat.le_trans h.hlim hk.size, h.rr,
    fun t i ht hi => own_kept2 (h.own t i ht hi) hk (fun g hg hm => by have h1 := own_ge (h.own t i ht hi) hg; have h2 := (hX g hm).1; omega), h.vv⟩
theorem Rg.snoc {t i : Nat} {v' : Value} {n' : Nat} {l' : List Value} (h : Rg e sz lim w r N v n l) (ht : t < 5) (hi : i < N) (hk : Kept (v t i).ownBlock.toList w w1) (hv : w1.ownsRow lim (e t) (sz t) v' n' l')
    (hg : ∀ g, v'.ownBlock = some g → (v t i).ownBlock = some g ∨ w.heap.size ≤ g) : Rg e sz lim (w1.setCell ⟨r t, i, none⟩ v') r N (upd2 v t i v') (upd2 n t i n') (upd2 l t i l') := by
  have hrl : ∀ t, t < 5 → r t < w.heap.size := fun t ht => Nat.lt_of_lt_of_le (h.rlt t ht) h.hlim
  have hvr : ∀ t' i' g, t' < 5 → i' < N → (v t' i').ownBlock = some g → ∀ t'', t'' < 5 → g ≠ r t'' := fun t' i' g ht' hi' hg' t'' ht'' e => by
    have h1 := own_ge (h.own t' i' ht' hi') hg'
    have h2 := h.rlt t'' ht''
    omega
  have hrn : ∀ t', t' < 5 → r t' ∉ (v t i).ownBlock.toList := fun t' ht' hm => hvr t i _ ht hi (by simpa using hm) t' ht' rfl
  have hk2 : Kept (r t :: (v t i).ownBlock.toList) w (w1.setCell ⟨r t, i, none⟩ v') := (keptWide hk (fun x hx => List.mem_cons_of_mem _ hx)).set (r t) i v' (.inl (by simp))
  have hv'r : ∀ g, v'.ownBlock = some g → g ≠ r t := fun g hg' => by
    rcases hg g hg' with h1 | h1
    · exact hvr t i g ht hi h1 t ht
    · have := hrl t ht; omega
  refine ⟨fun t' i' ht' hi' => ?_, fun t' i' ht' => ?_, h.rlt, Nat.le_trans h.hlim (by simpa [World.setCell] using hk.size), h.rr, fun t' i' ht' hi' => ?_, fun t1 i1 t2 i2 x h1 h2 h3 h4 h5 h6 => ?_⟩
  · have hc := (hk.cell (r t') i' (hrl t' ht') (hrn t' ht')).trans (h.cell t' i' ht' hi')
    by_cases e1 : t' = t ∧ i' = i
    · obtain ⟨rfl, rfl⟩ := e1
      rw [upd2_at]
      exact set_same hc
    · rw [upd2_ne e1, set_other]
      · exact hc
      · by_cases e2 : t' = t
        · right; intro e3; exact e1 ⟨e2, e3.symm⟩
        · left; intro e3; exact e2 (h.rr t' t ht' ht e3.symm)
  · have := (hk.frozen (r t') i' (hrl t' ht') (hrn t' ht')).trans (h.fr t' i' ht')
    simpa using this
  · by_cases e1 : t' = t ∧ i' = i
    · obtain ⟨rfl, rfl⟩ := e1
      rw [upd2_at, upd2_at, upd2_at]
      exact own_kept2 hv ((Kept.refl [r t'] w1).set (r t') i' v' (.inl (by simp))) (fun g hg' => by simpa using hv'r g hg')
    · rw [upd2_ne e1, upd2_ne e1, upd2_ne e1]
      refine own_kept2 (h.own t' i' ht' hi') hk2 (fun g hg' hm => ?_)
      rcases List.mem_cons.1 hm with h1 | h1
      · exact hvr t' i' g ht' hi' hg' t ht h1
      · exact e1 (h.vv t' i' t i g ht' ht hi' hi hg' (by simpa using h1))
  · by_cases e1 : t1 = t ∧ i1 = i
    · obtain ⟨rfl, rfl⟩ := e1
      rw [upd2_at] at h5
      by_cases e2 : t2 = t1 ∧ i2 = i1
      · exact ⟨e2.1.symm, e2.2.symm⟩
      · rw [upd2_ne e2] at h6
        rcases hg x h5 with h7 | h7
        · exact h.vv t1 i1 t2 i2 x h1 h2 h3 h4 h7 h6
        · have := own_lt2 (h.own t2 i2 h2 h4) h6; omega
    · rw [upd2_ne e1] at h5
      by_cases e2 : t2 = t ∧ i2 = i
      · obtain ⟨rfl, rfl⟩ := e2
        rw [upd2_at] at h6
        rcases hg x h6 with h7 | h7
        · exact h.vv t1 i1 t2 i2 x h1 h2 h3 h4 h5 h7
        · have := own_lt2 (h.own t1 i1 h1 h3) h5; omega
      · rw [upd2_ne e2] at h6
        exact h.vv t1 i1 t2 i2 x h1 h2 h3 h4 h5 h6
end
theorem blk_of_obj {w : World} {g : Nat} {C : List Value} {t : TypeId} (h : w.heap[g]? = some (.cells C.toArray t (0, 0))) : Blk w g C :=
  ⟨(Array.getElem?_eq_some_iff.1 h).1, fun i => by simp [World.cell?, h], fun i => by simp [World.frozen?, h]⟩
namespace Iv
open Sp
def prE (p : Vb) (t i k : Nat) : Bool :=
  match t with
  | 0 => (ge p.es k).a == (i : Int)
  | 1 => (ge p.es k).k == 2 && (ge p.es k).b == (i : Int)
  | 2 => (ge p.es k).k == 2 && If.stOf p.ns (ge p.es k).a.toNat == i
  | 3 => ((ge p.es k).k == 3 || (ge p.es k).k == 4) && (ge p.es k).c == (i : Int)
  | _ => false
def LE (p : Vb) (k t i : Nat) : List Nat := (List.range k).filter (prE p t i)
def SE (p : Vb) (j i : Nat) : List Vs := (p.sd.take j).filter fun s => s.n == (i : Int)
theorem LE_one (p : Vb) (k t i : Nat) : LE p (k + 1) t i = if prE p t i k = true then LE p k t i ++ [k] else LE p k t i := filter_one k
theorem upd2_app {L : Nat → Nat → List Nat} {t i t' i' k : Nat} : upd2 L t i (L t i ++ [k]) t' i' = if t' = t ∧ i' = i then L t' i' ++ [k] else L t' i' := by
  by_cases e : t' = t ∧ i' = i
  · rw [if_pos e]; obtain ⟨rfl, rfl⟩ := e; rw [upd2_at]
  · rw [if_neg e, upd2_ne e]
theorem beq_int (x i : Nat) : ((x : Int) == (i : Int)) = decide (i = x) := by
  by_cases e : i = x
  · subst e; simp
  · have : ¬ ((x : Int) = (i : Int)) := by omega
    simp [e, this]
theorem beq_nat (x i : Nat) : (x == i) = decide (i = x) := by
  by_cases e : i = x
  · subst e; simp
  · have : ¬ (x = i) := fun h => e h.symm
    simp [e, this]
theorem LE_call {p : Vb} {k ea eb st : Nat} (h2 : (ge p.es k).k = 2) (ha : (ge p.es k).a = (ea : Int)) (hb : (ge p.es k).b = (eb : Int)) (hs : If.stOf p.ns ea = st) {L1 L2 L3 : Nat → Nat → List Nat} (e1 : L1 = upd2 (LE p k) 0 ea (LE p k 0 ea ++ [k])) (e2 : L2 = upd2 L1 1 eb (L1 1 eb ++ [k])) (e3 : L3 = upd2 L2 2 st (L2 2 st ++ [k])) : LE p (k + 1) = L3 := by
  funext t i
  rw [LE_one, e3, upd2_app, e2, upd2_app, e1, upd2_app]
  match t with
  | 0 => simp [prE, ha, beq_int]
  | 1 => simp [prE, h2, hb, beq_int]
  | 2 => simp [prE, h2, ha, hs, beq_nat]
  | 3 => simp [prE, h2]
  | _ + 4 => simp [prE]
theorem LE_ret {p : Vb} {k ea ec : Nat} (h2 : (ge p.es k).k = 3 ∨ (ge p.es k).k = 4) (ha : (ge p.es k).a = (ea : Int)) (hc : (ge p.es k).c = (ec : Int)) {L1 L2 : Nat → Nat → List Nat} (e1 : L1 = upd2 (LE p k) 0 ea (LE p k 0 ea ++ [k])) (e2 : L2 = upd2 L1 3 ec (L1 3 ec ++ [k])) : LE p (k + 1) = L2 := by
  have h3 : (ge p.es k).k ≠ 2 := by omega
  funext t i
  rw [LE_one, e2, upd2_app, e1, upd2_app]
  match t with
  | 0 => simp [prE, ha, beq_int]
  | 1 => simp [prE, h3]
  | 2 => simp [prE, h3]
  | 3 => simp [prE, h2, hc, beq_int]
  | _ + 4 => simp [prE]
theorem LE_else {p : Vb} {k ea : Nat} (h2 : (ge p.es k).k ≠ 2) (h3 : (ge p.es k).k ≠ 3) (h4 : (ge p.es k).k ≠ 4) (ha : (ge p.es k).a = (ea : Int)) {L1 : Nat → Nat → List Nat} (e1 : L1 = upd2 (LE p k) 0 ea (LE p k 0 ea ++ [k])) : LE p (k + 1) = L1 := by
  funext t i
  rw [LE_one, e1, upd2_app]
  match t with
  | 0 => simp [prE, ha, beq_int]
  | 1 => simp [prE, h2]
  | 2 => simp [prE, h2]
  | 3 => simp [prE, h3, h4]
  | _ + 4 => simp [prE]
theorem LE_len (p : Vb) (k t i : Nat) : (LE p k t i).length ≤ k := by
  have h := List.length_filter_le (prE p t i) (List.range k)
  rw [List.length_range] at h
  exact h
def vcells (l : List Vs) : List Value := l.flatMap fun u => [.int .i64 u.n, .int .i64 u.f, .int .i64 u.k, .int .i64 u.v]
theorem vcells_snoc (l : List Vs) (u : Vs) : vcells (l ++ [u]) = vcells l ++ [.int .i64 u.n, .int .i64 u.f, .int .i64 u.k, .int .i64 u.v] := by simp [vcells]
def NKf (L : Nat → Nat → List Nat) (S : Nat → List Vs) (t i : Nat) : Nat := if t = 4 then (S i).length else (L t i).length
def CKf (L : Nat → Nat → List Nat) (S : Nat → List Vs) (t i : Nat) : List Value := if t = 4 then vcells (S i) else (ofNats (L t i)).map (Value.int .i64)
theorem NK_up {L : Nat → Nat → List Nat} {S : Nat → List Vs} {t i k : Nat} (ht : t < 4) : NKf (upd2 L t i (L t i ++ [k])) S = upd2 (NKf L S) t i ((L t i).length + 1) := by
  funext t' i'
  by_cases e : t' = t ∧ i' = i
  · obtain ⟨rfl, rfl⟩ := e
    rw [upd2_at]
    unfold NKf
    rw [if_neg (by omega), upd2_at, List.length_append]
    rfl
  · rw [upd2_ne e]
    unfold NKf
    rw [upd2_ne e]
theorem CK_up {L : Nat → Nat → List Nat} {S : Nat → List Vs} {t i k : Nat} (ht : t < 4) : CKf (upd2 L t i (L t i ++ [k])) S = upd2 (CKf L S) t i (CKf L S t i ++ [.int .i64 (k : Nat)]) := by
  funext t' i'
  by_cases e : t' = t ∧ i' = i
  · obtain ⟨rfl, rfl⟩ := e
    rw [upd2_at]
    unfold CKf
    rw [if_neg (by omega), if_neg (by omega), upd2_at, ofNats_snoc, List.map_append]
    rfl
  · rw [upd2_ne e]
    unfold CKf
    rw [upd2_ne e]
end Iv
end Go.Df
namespace Go.Df.Iv
open Go Go.RowKit Go.Df.Sp
def bump (k : Nat → Nat) (i : Nat) : Nat → Nat := fun j => if j = i then k j + 1 else k j
def St.setT (s : St) (n a d : Nat) (y : D) : St := ⟨s.put n a d y, s.ls, s.V, s.pd, s.q, bump s.k 0⟩
def St.addL (s : St) (i n a x : Nat) : St := ⟨s.T, fun i' n' a' => if i' = i ∧ n' = n ∧ a' = a then s.ls i n a ++ [x] else s.ls i' n' a', s.V, s.pd, s.q, bump s.k i⟩
def St.setV (s : St) (n a : Nat) (v : U) : St := ⟨s.T, s.ls, fun n' a' => if n' = n ∧ a' = a then v else s.V n' a', s.pd, s.q, bump s.k 3⟩
def St.setP (s : St) (n : Nat) (l : List (Nat × Nat)) : St := ⟨s.T, s.ls, s.V, fun n' => if n' = n then l else s.pd n', s.q, bump s.k 4⟩
def St.setQ (s : St) (q : List Nat) : St := ⟨s.T, s.ls, s.V, s.pd, q, s.k⟩
theorem inc_old {s : St} {n a d : Nat} {x : D} (h : meet (s.T n a d) x ≠ s.T n a d) (h0 : s.T n a d ≠ top) (q : List Nat) (hq : q = if s.pd n = [] then s.q ++ [n] else s.q) :
    s.inc n a d x = ((s.setT n a d (meet (s.T n a d) x)).setQ q).setP n (s.pd n ++ [(a, d)]) := by
  subst hq
  unfold St.inc St.setT St.setQ St.setP St.lst
  rw [if_neg h]
  congr 1
  · funext i n' a'
    rw [if_neg h0]
  · funext i
    unfold bump
    rw [if_neg h0]
    by_cases e1 : i = 1 ∨ i = 2
    · rw [if_pos e1]
      rcases e1 with rfl | rfl <;> simp
    · rw [if_neg e1]
      by_cases e2 : i = 0
      · subst e2; simp
      · by_cases e3 : i = 4
        · subst e3; simp
        · simp [e2, e3]
theorem inc_new {s : St} {n a d : Nat} {x : D} (h : meet (s.T n a d) x ≠ s.T n a d) (h0 : s.T n a d = top) (q : List Nat) (hq : q = if s.pd n = [] then s.q ++ [n] else s.q) :
    s.inc n a d x = ((((s.addL 1 n a d).addL 2 n d a).setT n a d (meet (s.T n a d) x)).setQ q).setP n (s.pd n ++ [(a, d)]) := by
  subst hq
  unfold St.inc St.setT St.setQ St.setP St.lst St.addL St.put
  rw [if_neg h]
  congr 1
  · funext i n' a'
    rw [if_pos h0]
    dsimp only
    by_cases e1 : i = 1 ∧ n' = n ∧ a' = a
    · rw [if_pos e1, if_neg (by omega), if_pos e1]
    · rw [if_neg e1]
      by_cases e2 : i = 2 ∧ n' = n ∧ a' = d
      · rw [if_pos e2, if_pos e2, if_neg (by omega)]
      · rw [if_neg e2, if_neg e2, if_neg e1]
  · funext i
    unfold bump
    rw [if_pos h0]
    by_cases e1 : i = 1
    · subst e1; simp
    · by_cases e2 : i = 2
      · subst e2; simp
      · by_cases e3 : i = 0
        · subst e3; simp
        · by_cases e4 : i = 4
          · subst e4; simp
          · simp [e1, e2, e3, e4]
end Go.Df.Iv
namespace Go.Proofs.YtincpmdldpakkaaDoor
open Go.RowKit Go.Df Go.Df.Iv Go.Df.Sp
def rowT (i : Nat) : TypeId := if i = 0 then 79 else if i = 3 then 145 else 173
section
variable {p : Vb} {K : Kn} {w0 : World} {b : Nat} {O O' : Nat → Prop} {G : Gh} {w w' : World} {s : St}
theorem Mem.rtag (h : Mem p K w0 b O G w s) {i : Nat} (hi : i < 4) : Tag w (K.tr i) (rowT i) := by
  have h4 : i = 0 ∨ i = 1 ∨ i = 2 ∨ i = 3 := by omega
  rcases h4 with rfl | rfl | rfl | rfl
  · exact h.tj.rtag
  · exact (h.tw 1 (.inl rfl)).rtag
  · exact (h.tw 2 (.inr rfl)).rtag
  · exact h.tv.rtag
theorem Mem.mobj (h : Mem p K w0 b O G w s) {i n x : Nat} (hi : i < 4) (hn : n < K.n1) (hx : G.m i n = some x) : ∃ es clock, w.heap[x]? = some (.map es clock) := by
  have h4 : i = 0 ∨ i = 1 ∨ i = 2 ∨ i = 3 := by omega
  rcases h4 with rfl | rfl | rfl | rfl
  · exact (h.tj.is n x hn hx).obj
  · exact ((h.tw 1 (.inl rfl)).is n x hn hx).obj
  · exact ((h.tw 2 (.inr rfl)).is n x hn hx).obj
  · exact (h.tv.is n x hn hx).obj
theorem rowT_ne {i j : Nat} (hi : i < 4) (hj : j < 4) (h : i ≠ j) (h12 : ¬ ((i = 1 ∨ i = 2) ∧ (j = 1 ∨ j = 2))) : rowT i ≠ rowT j := by
  have hi4 : i = 0 ∨ i = 1 ∨ i = 2 ∨ i = 3 := by omega
  have hj4 : j = 0 ∨ j = 1 ∨ j = 2 ∨ j = 3 := by omega
  rcases hi4 with rfl | rfl | rfl | rfl <;> rcases hj4 with rfl | rfl | rfl | rfl <;> first | (exact absurd rfl h) | (unfold rowT; decide) | (exact absurd ⟨by simp, by simp⟩ h12)
theorem Mem.trj (h : Mem p K w0 b O G w s) {i j : Nat} (hi : i < 4) (hj : j < 4) (hne : i ≠ j) : K.tr i ≠ K.tr j := by
  by_cases h12 : (i = 1 ∨ i = 2) ∧ (j = 1 ∨ j = 2)
  · obtain ⟨h1, h2⟩ := h12
    rcases h1 with rfl | rfl <;> rcases h2 with rfl | rfl
    · exact absurd rfl hne
    · exact h.trne
    · exact h.trne.symm
    · exact absurd rfl hne
  · exact (h.rtag hi).ne (h.rtag hj) (rowT_ne hi hj hne h12)
def OwnL (G : Gh) (i n a : Nat) (L : List Nat) : Prop := ∀ y ∈ L, (i = 1 ∨ i = 2) ∧ (G.wv i n (.int .i64 (a : Nat))).ownBlock = some y
theorem Mem.ltag (h : Mem p K w0 b O G w s) {i n a y : Nat} {L : List Nat} (hL : OwnL G i n a L) (hn : n < K.n1) (hy : y ∈ L) : Tag w y 3 := own_tag (h.hw i n a (hL y hy).1 hn) (hL y hy).2
theorem Mem.nX (h : Mem p K w0 b O G w s) {i n y : Nat} {t : TypeId} {L : List Nat} (hi : i < 4) (hn : n < K.n1) (ht : Tag w y t) (hy : y ≠ K.tr i) (hL : y ∉ L) : y ∉ K.tr i :: ((G.m i n).toList ++ L) := by
  intro hm
  rcases List.mem_cons.1 hm with h1 | h1
  · exact hy h1
  · rcases List.mem_append.1 h1 with h2 | h2
    · have h3 : G.m i n = some y := by simpa using h2
      exact ht.ne_map (h.mobj hi hn h3) rfl
    · exact hL h2
theorem Mem.nXt (h : Mem p K w0 b O G w s) {i n a y : Nat} {t : TypeId} {L : List Nat} (hi : i < 4) (hn : n < K.n1) (hL : OwnL G i n a L) (ht : Tag w y t) (h1 : t ≠ rowT i) (h2 : t ≠ 3) : y ∉ K.tr i :: ((G.m i n).toList ++ L) :=
  h.nX hi hn ht (ht.ne (h.rtag hi) h1) (fun hm => ht.ne (h.ltag hL hn hm) h2 rfl)
theorem Mem.nXm (h : Mem p K w0 b O G w s) {i n a j m y : Nat} {L : List Nat} (hi : i < 4) (hn : n < K.n1) (hj : j < 4) (hm : m < K.n1) (hL : OwnL G i n a L) (hy : G.m j m = some y) (hne : ¬ (j = i ∧ m = n)) : y ∉ K.tr i :: ((G.m i n).toList ++ L) := by
  intro hx
  rcases List.mem_cons.1 hx with h1 | h1
  · exact (h.rtag hi).ne_map (h.mobj hj hm hy) h1.symm
  · rcases List.mem_append.1 h1 with h2 | h2
    · have h3 : G.m i n = some y := by simpa using h2
      exact hne (h.minj j i m n y hj hi hm hn hy h3)
    · exact (h.ltag hL hn h2).ne_map (h.mobj hj hm hy) rfl
theorem Mem.nXl (h : Mem p K w0 b O G w s) {i n a j m c y : Nat} {L : List Nat} (hi : i < 4) (hn : n < K.n1) (hj : j = 1 ∨ j = 2) (hm : m < K.n1) (hL : OwnL G i n a L) (hy : (G.wv j m (.int .i64 (c : Nat))).ownBlock = some y) (hne : ¬ (j = i ∧ m = n ∧ c = a)) : y ∉ K.tr i :: ((G.m i n).toList ++ L) := by
  have ht := own_tag (h.hw j m c hj hm) hy
  refine h.nX hi hn ht (ht.ne (h.rtag hi) (by unfold rowT; (repeat' split) <;> decide)) (fun hx => hne ?_)
  have h1 := hL y hx
  exact h.winj j m c i n a y hj h1.1 hm hn hy h1.2
theorem Mem.oX (h : Mem p K w0 b O G w s) {i n a : Nat} {L : List Nat} (hi : i < 4) (hn : n < K.n1) (hL : OwnL G i n a L) : ∀ y ∈ K.tr i :: ((G.m i n).toList ++ L), O y := fun y hm => by
  rcases List.mem_cons.1 hm with rfl | h1
  · exact h.otr i hi
  · rcases List.mem_append.1 h1 with h2 | h2
    · exact h.om i n y hi hn (by simpa using h2)
    · exact h.ow i n a y (hL y h2).1 hn (hL y h2).2
structure Side (p : Vb) (K : Kn) (w0 : World) (b : Nat) (O' : Nat → Prop) (G : Gh) (w' : World) (s : St) (i n a : Nat) : Prop where
  stat : Stat p K w0 O' w'
  box : Blk w' b (sbox p K G)
  btag : Tag w' b 95
  tj : i ≠ 0 → TbX w' (K.tr 0) K.n1 (G.m 0) (G.c 0) G.jv
  tw : ∀ j, j = 1 ∨ j = 2 → j ≠ i → TbL w' (K.tr j) K.n1 (G.m j) (G.c j) (G.wv j)
  tv : i ≠ 3 → TbV w' (K.tr 3) K.n1 (G.m 3) (G.c 3) G.vv
  hw : ∀ j m c, j = 1 ∨ j = 2 → m < K.n1 → ¬ (j = i ∧ m = n ∧ c = a) → w'.ownsRow w0.heap.size 3 1 (G.wv j m (.int .i64 (c : Nat))) (s.ls j m c).length ((ofNats (s.ls j m c)).map (Value.int .i64))
  prow : ∀ m, m < K.n1 → w'.cell? ⟨K.pr, m, none⟩ = some (G.pv m)
  ptag : Tag w' K.pr 45
  pown : ∀ m, m < K.n1 → w'.ownsRow w0.heap.size 48 2 (G.pv m) (s.pd m).length (pcells (s.pd m))
  queue : SInO O' w' G.qA G.qn G.qc (ofNats s.q)
  rank : SIn w' G.rA 0 G.rc []
theorem Mem.side (h : Mem p K w0 b O G w s) {i n a : Nat} {L : List Nat} (hi : i < 4) (hn : n < K.n1) (hL : OwnL G i n a L) (hk : Kept (K.tr i :: ((G.m i n).toList ++ L)) w w') (f : Fx O O' w w') : Side p K w0 b O' G w' s i n a := by
  have hb := h.nXt hi hn hL h.btag (by unfold rowT; (repeat' split) <;> decide) (by decide)
  have hp := h.nXt hi hn hL h.ptag (by unfold rowT; (repeat' split) <;> decide) (by decide)
  have hrow : ∀ j, j < 4 → j ≠ i → K.tr j ∉ K.tr i :: ((G.m i n).toList ++ L) := fun j hj hne => h.nX hi hn (h.rtag hj) (h.trj hj hi hne) (fun hm => (h.rtag hj).ne (h.ltag hL hn hm) (by unfold rowT; (repeat' split) <;> decide) rfl)
  refine ⟨h.stat.fx f (fun x hx => (h.og x hx).1), hk.blk hb h.box, h.btag.same (hk.block b h.btag.lt hb), fun h0 => ?_, fun j hj hne => ?_, fun h3 => ?_, fun j m c hj hm hne => ?_, fun m hm => (hk.cell K.pr m h.ptag.lt hp).trans (h.prow m hm), h.ptag.same (hk.block _ h.ptag.lt hp), fun m hm => ?_, h.queue.fx f, ?_⟩
  · exact h.tj.kept hk (hrow 0 (by omega) (Ne.symm h0)) (fun m x hm hx => h.nXm hi hn (by omega) hm hL hx (fun e => h0 e.1.symm))
  · exact (h.tw j hj).kept hk (hrow j (by omega) hne) (fun m x hm hx => h.nXm hi hn (by omega) hm hL hx (fun e => hne e.1))
  · exact h.tv.kept hk (hrow 3 (by omega) (Ne.symm h3)) (fun m x hm hx => h.nXm hi hn (by omega) hm hL hx (fun e => h3 e.1.symm))
  · exact own_kept2 (h.hw j m c hj hm) hk (fun g hg => h.nXl hi hn hj hm hL hg hne)
  · refine own_kept2 (h.pown m hm) hk (fun g hg => ?_)
    have ht := own_tag (h.pown m hm) hg
    exact h.nXt hi hn hL ht (by unfold rowT; (repeat' split) <;> decide) (by decide)
  · exact h.rank.keptX hk (fun h0 => by omega)
structure NewM (G : Gh) (w w' : World) (i n : Nat) (m' : Nat → Option Nat) : Prop where
  old : ∀ l, l ≠ n → m' l = G.m i l
  at_ : m' n = G.m i n ∨ (G.m i n = none ∧ ∃ b, m' n = some b ∧ w.heap.size ≤ b)
  lt : ∀ x, m' n = some x → x < w'.heap.size
def _root_.Go.Df.Iv.Gh.setM (G : Gh) (i : Nat) (m' : Nat → Option Nat) (c' : Nat → Nat) : Gh := { G with m := fun j => if j = i then m' else G.m j, c := fun j => if j = i then c' else G.c j }
theorem NewM.new {i n : Nat} {m' : Nat → Option Nat} (hm : NewM G w w' i n m') {x : Nat} (hx : m' n = some x) : G.m i n = some x ∨ w.heap.size ≤ x := by
  rcases hm.at_ with h2 | ⟨-, y, h2, h3⟩
  · exact .inl (by rw [← h2]; exact hx)
  · rw [h2] at hx; injection hx with hx; exact .inr (by omega)
theorem Mem.om2 (h : Mem p K w0 b O G w s) {i n : Nat} {m' : Nat → Option Nat} (hi : i < 4) (hm : NewM G w w' i n m') {j l x : Nat} (hj : j < 4) (hl : l < K.n1) (hx : (if j = i then m' else G.m j) l = some x) : O x ∨ m' n = some x := by
  by_cases e : j = i
  · rw [if_pos e] at hx
    by_cases e2 : l = n
    · rw [e2] at hx; exact .inr hx
    · rw [hm.old l e2] at hx; exact .inl (h.om i l x hi hl hx)
  · rw [if_neg e] at hx; exact .inl (h.om j l x hj hl hx)
theorem Mem.minj2 (h : Mem p K w0 b O G w s) {i n : Nat} {m' : Nat → Option Nat} (hi : i < 4) (hn : n < K.n1) (hm : NewM G w w' i n m') {j l j' l' x : Nat} (hj : j < 4) (hj' : j' < 4) (hl : l < K.n1) (hl' : l' < K.n1)
    (hx : (if j = i then m' else G.m j) l = some x) (hx' : (if j' = i then m' else G.m j') l' = some x) : j = j' ∧ l = l' := by
  have key : ∀ {j l : Nat}, j < 4 → l < K.n1 → (if j = i then m' else G.m j) l = some x → G.m j l = some x ∨ (j = i ∧ l = n ∧ w.heap.size ≤ x) := fun {j l} hj hl hx => by
    by_cases e : j = i
    · rw [if_pos e] at hx
      by_cases e2 : l = n
      · rw [e2] at hx
        rcases hm.new hx with h1 | h1
        · left; rw [e, e2]; exact h1
        · exact .inr ⟨e, e2, h1⟩
      · rw [hm.old l e2] at hx; left; rw [e]; exact hx
    · rw [if_neg e] at hx; exact .inl hx
  have lt : ∀ {j l : Nat}, j < 4 → l < K.n1 → G.m j l = some x → x < w.heap.size := fun hj hl h1 => (h.og x (h.om _ _ x hj hl h1)).2
  rcases key hj hl hx with h1 | ⟨rfl, rfl, h1⟩
  · rcases key hj' hl' hx' with h2 | ⟨rfl, rfl, h2⟩
    · exact h.minj j j' l l' x hj hj' hl hl' h1 h2
    · have := lt hj hl h1; omega
  · rcases key hj' hl' hx' with h2 | ⟨rfl, rfl, h2⟩
    · have := lt hj' hl' h2; omega
    · exact ⟨rfl, rfl⟩
end
end Go.Proofs.YtincpmdldpakkaaDoor
