/- Texts: Ze Zf Zg Zh. -/
import Derived.Test.YtooejoajojanjaaGreatDoorXSf06
import Derived.Test.YtooejoajojanjaaGreatDoorXSf08
import Derived.Test.YtooejoajojanjaaGreatDoorXSf09
import Derived.Test.YtooejoajojanjaaGreatDoorXSf05
namespace Go.Df
open Go.RowKit
def BtV (O : Nat → Prop) (w : World) (v : Value) (f : Nat → Bool) : Prop :=
 ∃ A n c l, v = .slice A n c ∧ Bts w A n l ∧ n ≤ 1024 ∧ (A = none → n = 0) ∧ (0 < n → ∀ a, A = some a → SafeB O w a.block) ∧ ∀ x, hasB l x = f x
theorem BtV.fx {O O' : Nat → Prop} {w w' : World} {v : Value} {f : Nat → Bool} (h : BtV O w v f) (g : Fx O O' w w') : BtV O' w' v f := by
 obtain ⟨A, n, c, l, h1, h2, h3, h4, h5, h6⟩ := h
 refine ⟨A, n, c, l, h1, ⟨h2.1, h2.2.1, fun hn => ?_⟩, h3, h4, fun hn a ha => (h5 hn a ha).fx g, h6⟩
 obtain ⟨b, o, e, hl, hc⟩ := h2.2.2 hn
 have hs := h5 hn _ e
 exact ⟨b, o, e, (hs.fx g).1, fun i hi => (hs.cell g (o + i)).trans (hc i hi)⟩
theorem BtV.nil (O : Nat → Prop) (w : World) : BtV O w (.slice none 0 0) (fun _ => false) := ⟨none, 0, 0, [], rfl, Bts.nil w, Nat.zero_le _, fun _ => rfl, fun h => absurd h (by omega), hasB_nil⟩
namespace If
open Sp
structure Kn where
 (A1 A2 A3 A4 : Option Addr)
 (n1 c1 n2 c2 n3 c3 n4 c4 sb ro rc rr rs hr er pr : Nat)
 kv : Value
structure Gh where
 (hm em : Nat → Option Nat)
 (hc ec : Nat → Nat)
 (hv ev : Nat → Value → Value)
 pv : Nat → Value
 (qA rA : Option Addr)
 (qn qc rc : Nat)
def sbox (p : Pb) (K : Kn) (G : Gh) : List Value :=
 [.slice K.A1 K.n1 K.c1, .slice K.A2 K.n2 K.c2, .int .i64 p.mn, .int .i64 p.F, .slice K.A3 K.n3 K.c3, .slice K.A4 K.n4 K.c4, K.kv, .slice (some ⟨K.sb, 0, none⟩) K.n1 K.n1, .slice (some ⟨K.ro, 0, none⟩) K.n1 K.n1, .slice (some ⟨K.rc, 0, none⟩) K.n1 K.n1, .slice (some ⟨K.rr, 0, none⟩) K.n1 K.n1, .slice (some ⟨K.rs, 0, none⟩) K.n1 K.n1,
  .slice (some ⟨K.hr, 0, none⟩) K.n1 K.n1, .slice (some ⟨K.er, 0, none⟩) K.n2 K.n2, .slice (some ⟨K.pr, 0, none⟩) K.n1 K.n1, .slice G.rA 0 G.rc, .slice G.qA G.qn G.qc]
def unhE (p : Pb) (s : St) : Nat := (trip p.es.length p.F.toNat).countP fun x => !s.e x.1 x.2.1 x.2.2
end If
end Go.Df
namespace Go.Proofs.YtooejoajojanjaaGreatDoor
open Go.RowKit Go.Df Go.Df.If
structure Inp (p : Pb) (K : Kn) (w0 : World) : Prop where
 nd : Nds w0 K.A1 K.n1 p.ns
 ed : Eds w0 K.A2 K.n2 p.es
 fl : Flw w0 K.A3 K.n3 p.fl
 sd : Sds w0 K.A4 K.n4 p.sd
structure Mem (p : Pb) (K : Kn) (w0 : World) (b : Nat) (O : Nat → Prop) (G : Gh) (w : World) (s : St) : Prop where
 low : Below w0.heap.size w0 w
 og : ∀ x, O x → w0.heap.size ≤ x ∧ x < w.heap.size
 ob : O b
 box : Blk w b (sbox p K G)
 start : SafeB O w K.sb ∧ ∀ i, i < K.n1 → w.cell? ⟨K.sb, i, none⟩ = some (.int .i64 (stOf p.ns i : Nat))
 out : RowsC O w K.ro K.n1 (fun i => ofNats (outL p i))
 calls : RowsC O w K.rc K.n1 (fun i => ofNats (callL p i))
 rets : RowsC O w K.rr K.n1 (fun i => ofNats (retL p i))
 seeds : RowsC O w K.rs K.n1 (fun i => (seedL p i).map Sd.f)
 held : TbB w K.hr K.n1 G.hm G.hc G.hv
 ent : TbB w K.er K.n2 G.em G.ec G.ev
 oh : O K.hr
 oe : O K.er
 opr : O K.pr
 ohm : ∀ n x, n < K.n1 → G.hm n = some x → O x
 oem : ∀ n x, n < K.n2 → G.em n = some x → O x
 opv : ∀ n x, n < K.n1 → (G.pv n).ownBlock = some x → O x
 hbits : ∀ n a, n < K.n1 → BtV O w (G.hv n (.int .i64 (a : Nat))) (s.h n a)
 ebits : ∀ k a, k < K.n2 → BtV O w (G.ev k (.int .i64 (a : Nat))) (s.e k a)
 prow : ∀ n, n < K.n1 → w.cell? ⟨K.pr, n, none⟩ = some (G.pv n)
 pfr : ∀ n, w.frozen? ⟨K.pr, n, none⟩ = false
 pown : ∀ n, n < K.n1 → w.ownsRow w0.heap.size 72 2 (G.pv n) (s.pd n).length (pcells (s.pd n))
 dist : b ≠ K.hr ∧ b ≠ K.er ∧ b ≠ K.pr ∧ K.hr ≠ K.er ∧ K.hr ≠ K.pr ∧ K.er ≠ K.pr
 dm : ∀ n k x, n < K.n1 → k < K.n2 → G.hm n = some x → G.em k ≠ some x
 dmb : ∀ n x, n < K.n1 → G.hm n = some x → x ≠ b ∧ x ≠ K.pr
 deb : ∀ n x, n < K.n2 → G.em n = some x → x ≠ b ∧ x ≠ K.pr
 dpv : ∀ n x, n < K.n1 → (G.pv n).ownBlock = some x → x ≠ b ∧ x ≠ K.hr ∧ x ≠ K.er ∧ x ≠ K.pr
 dpp : ∀ n n' x, n < K.n1 → n' < K.n1 → (G.pv n).ownBlock = some x → (G.pv n').ownBlock = some x → n = n'
 queue : SInO O w G.qA G.qn G.qc (ofNats s.q)
 rank : SIn w G.rA 0 G.rc []
 hcb : ∀ n, n < K.n1 → G.hc n + unh p s ≤ (trip p.ns.length p.F.toNat).length
 ecb : ∀ n, n < K.n2 → G.ec n + unhE p s ≤ (trip p.es.length p.F.toNat).length
 pdb : ∀ n, n < K.n1 → (s.pd n).length + unh p s ≤ (trip p.ns.length p.F.toNat).length
 hsm : ∀ n, n < K.n1 → ∃ x, G.hm n = some x
 esm : ∀ n, n < K.n2 → ∃ x, G.em n = some x
 hneg : ∀ n (x : Int), n < K.n1 → x < 0 → G.hv n (.int .i64 x) = .slice none 0 0
variable {p : Pb} {K : Kn} {w0 : World} {b : Nat} {O : Nat → Prop} {G : Gh} {w : World} {s : St}
theorem Mem.pv_map (h : Mem p K w0 b O G w s) {n n' x y : Nat} (hn : n < K.n1) (hx : (G.pv n).ownBlock = some x) (hy : G.hm n' = some y) (hn' : n' < K.n1) : x ≠ y := (own_tag (h.pown n hn) hx).ne_map (h.held.is n' y hn' hy).obj
theorem Mem.pv_emap (h : Mem p K w0 b O G w s) {n n' x y : Nat} (hn : n < K.n1) (hx : (G.pv n).ownBlock = some x) (hy : G.em n' = some y) (hn' : n' < K.n2) : x ≠ y := (own_tag (h.pown n hn) hx).ne_map (h.ent.is n' y hn' hy).obj
theorem Mem.call {w' : World} (h : Mem p K w0 b O G w s) (hb : Below w.heap.size w w') : Mem p K w0 b O G w' s := by
 have hk : Kept [] w w' := (Kept.refl _ _).call hb
 have f : Fx O O w w' := .same hk
 refine { h with low := ?_, og := ?_, box := ?_, start := ?_, out := h.out.fx f, calls := h.calls.fx f, rets := h.rets.fx f, seeds := h.seeds.fx f, held := h.held.kept hk (by simp) (by simp), ent := h.ent.kept hk (by simp) (by simp), hbits := fun n a hn => (h.hbits n a hn).fx f, ebits := fun n a hn => (h.ebits n a hn).fx f, prow := fun n hn => ?_, pfr := fun n => ?_, pown := fun n hn => own_kept2 (h.pown n hn) hk (by simp), queue := h.queue.fx f, rank := h.rank.kept hk }
 · exact h.low.trans (hb.mono h.low.size)
 · exact fun x hx => ⟨(h.og x hx).1, Nat.lt_of_lt_of_le (h.og x hx).2 hb.size⟩
 · exact hk.blk (by simp) h.box
 · exact ⟨h.start.1.fx f, fun i hi => (h.start.1.cell f i).trans (h.start.2 i hi)⟩
 · exact (hk.cell K.pr n (h.og _ h.opr).2 (by simp)).trans (h.prow n hn)
 · exact (hk.frozen K.pr n (h.og _ h.opr).2 (by simp)).trans (h.pfr n)
theorem Mem.eq {s' : St} (h : Mem p K w0 b O G w s) (e : s = s') : Mem p K w0 b O G w s' := e ▸ h
end Go.Proofs.YtooejoajojanjaaGreatDoor
namespace Go.Df.If
def St.hold (s : St) (n a d : Nat) : St := ⟨fun n' a' d' => s.h n' a' d' || (n' == n && (a' == a && d' == d)), s.e, s.pd, s.q⟩
def St.toq (s : St) (q : List Nat) : St := ⟨s.h, s.e, s.pd, q⟩
def St.pend (s : St) (n : Nat) (l : List (Nat × Nat)) : St := ⟨s.h, s.e, fun n' => if n' = n then l else s.pd n', s.q⟩
theorem unh_hold {p : Pb} {s : St} {n a d : Nat} (hn : n < p.ns.length) (ha : a < p.F.toNat) (hd : d < p.F.toNat) (h0 : s.h n a d = false) : unh p (s.hold n a d) < unh p s := by
 have h1 := unh_add hn ha hd h0
 have e : unh p (s.hold n a d) = unh p (s.add n a d) := by
   unfold unh St.hold St.add
   rw [if_neg (by rw [h0]; simp)]
 omega
theorem unhE_ent {p : Pb} {s : St} {k b a : Nat} (hk : k < p.es.length) (hb : b < p.F.toNat) (ha : a < p.F.toNat) (h0 : s.e k b a = false) : unhE p (s.ent k b a) < unhE p s := by
 unfold unhE
 refine countP_lt (y := (k, b, a)) (fun x hx => ?_) (by simp [h0]) (by simp [St.ent]) _ (mem_trip.2 ⟨hk, hb, ha⟩)
 simp [St.ent] at hx ⊢
 exact hx.1
theorem add_eq {s : St} {n a d : Nat} (h0 : s.h n a d = false) (h1 : s.pd n = []) : s.add n a d = ((s.hold n a d).toq (s.q ++ [n])).pend n (s.pd n ++ [(a, d)]) := by
 unfold St.add St.hold St.toq St.pend
 rw [if_neg (by rw [h0]; simp), if_pos h1]
theorem add_eq2 {s : St} {n a d : Nat} (h0 : s.h n a d = false) (h1 : s.pd n ≠ []) : s.add n a d = (s.hold n a d).pend n (s.pd n ++ [(a, d)]) := by
 unfold St.add St.hold St.pend
 rw [if_neg (by rw [h0]; simp), if_neg h1]
end Go.Df.If
namespace Go.Proofs.YtooejoajojanjaaGreatDoor
open Go.RowKit Go.Df Go.Df.If
variable {p : Pb} {K : Kn} {w0 : World} {b : Nat} {O : Nat → Prop} {G : Gh} {w w' : World} {s : St}
theorem Mem.put_held {n a d : Nat} {x : Value} {e : Ending} (h : Mem p K w0 b O G w s) (hN : K.n1 = p.ns.length) (hn : n < K.n1) (ha : a < p.F.toNat) (hd : d < p.F.toNat) (h0 : s.h n a d = false) (hx : BtV O w x (fun y => s.h n a y || y == d))
   (hp : PutT Tryz.prog 3 157 (.slice none 0 0) w K.hr K.n1 G.hm G.hc G.hv n (.int .i64 a) x e w') : ∃ O' G', e = .returned (.tuple #[]) ∧ Mem p K w0 b O' G' w' (s.hold n a d) ∧ Fx O O' w w' ∧ G'.pv = G.pv := by
 obtain ⟨m', he, hT, hk, hm1, hm2⟩ := hp
 have hnew : ∀ x, m' n = some x → G.hm n = some x ∨ w.heap.size ≤ x := fun x hx => by
   rcases hm2 with h2 | ⟨-, y, h2, h3⟩
   · exact .inl (by rw [← h2]; exact hx)
   · rw [h2] at hx; injection hx with hx; exact .inr (by omega)
 have hown : ∀ x, (O x ∨ m' n = some x) → O x ∨ w.heap.size ≤ x := fun x hx => by
   rcases hx with hx | hx
   · exact .inl hx
   · rcases hnew x hx with h2 | h2
     · exact .inl (h.ohm n x hn h2)
     · exact .inr h2
 have hXm : ∀ y, y ∈ K.hr :: (G.hm n).toList → y = K.hr ∨ G.hm n = some y := fun y hy => by
   rcases List.mem_cons.1 hy with h2 | h2
   · exact .inl h2
   · exact .inr (by simpa using h2)
 have f : Fx O (fun x => O x ∨ m' n = some x) w w' := Fx.of hk (fun x hx => by
   rcases hXm x hx with rfl | h2
   · exact .inl h.oh
   · exact .inl (h.ohm n x hn h2)) hown
 have hu := unh_hold (p := p) (by omega) ha hd h0
 have hb : b < w.heap.size := (h.og b h.ob).2
 have hpr : K.pr < w.heap.size := (h.og _ h.opr).2
 have nX : ∀ y, y ≠ K.hr → (∀ z, G.hm n = some z → y ≠ z) → y ∉ K.hr :: (G.hm n).toList := fun y h1 h2 hy => by
   rcases hXm y hy with h3 | h3
   · exact h1 h3
   · exact h2 y h3 rfl
 have pX : K.pr ∉ K.hr :: (G.hm n).toList := nX _ h.dist.2.2.2.2.1.symm (fun z hz e => (h.dmb n z hn hz).2 e.symm)
 have hsm : ∀ i, i < K.n1 → ∃ x, m' i = some x := fun i hi => by
   by_cases e : i = n
   · subst e
     rcases hm2 with h2 | ⟨-, y, h2, -⟩
     · rw [h2]; exact h.hsm i hi
     · exact ⟨y, h2⟩
   · rw [hm1 i e]; exact h.hsm i hi
 refine ⟨fun x => O x ∨ m' n = some x, { G with hm := m', hc := fun i => if i = n then G.hc n + 1 else G.hc i, hv := updV G.hv n (.int .i64 a) x }, he, ?_, f, rfl⟩
 refine { hsm := hsm, esm := h.esm, low := f.below h.low (fun x hx => (h.og x hx).1), og := ?_, ob := .inl h.ob, box := ?_, start := ⟨h.start.1.fx f, fun i hi => (h.start.1.cell f i).trans (h.start.2 i hi)⟩, out := h.out.fx f, calls := h.calls.fx f, rets := h.rets.fx f, seeds := h.seeds.fx f, held := hT, ent := ?_, oh := .inl h.oh, oe := .inl h.oe, opr := .inl h.opr, ohm := ?_, oem := fun k x hk hx => .inl (h.oem k x hk hx), opv := fun i x hi hx => .inl (h.opv i x hi hx), hbits := ?_, ebits := fun k a hk => (h.ebits k a hk).fx f, prow := fun i hi => (hk.cell K.pr i hpr pX).trans (h.prow i hi), pfr := fun i => (hk.frozen K.pr i hpr pX).trans (h.pfr i), pown := ?_, dist := h.dist, dm := ?_, dmb := ?_, deb := h.deb, dpv := h.dpv, dpp := h.dpp, queue := h.queue.fx f, rank := ⟨⟨rfl, fun h => absurd h (by omega)⟩, h.rank.2⟩, hcb := ?_, ecb := h.ecb, pdb := ?_, hneg := fun i x' hi h' => by show updV G.hv n (.int .i64 a) x i (.int .i64 x') = _; unfold updV; rw [if_neg (by rintro ⟨-, e2⟩; injection e2 with _ e2; omega)]; exact h.hneg i x' hi h' }
 · intro x hx
   rcases hx with hx | hx
   · exact ⟨(h.og x hx).1, Nat.lt_of_lt_of_le (h.og x hx).2 f.size⟩
   · refine ⟨?_, (hT.is n x hn hx).lt⟩
     rcases hnew x hx with h2 | h2
     · exact (h.og x (h.ohm n x hn h2)).1
     · have := h.low.size; omega
 · exact hk.blk (nX b h.dist.1 (fun z hz e => (h.dmb n z hn hz).1 e.symm)) h.box
 · refine h.ent.kept hk (nX _ h.dist.2.2.2.1.symm (fun z hz => h.ent.rtag.ne_map (h.held.is n z hn hz).obj)) (fun k x hk' hx => nX x (h.held.rtag.ne_map (h.ent.is k x hk' hx).obj).symm (fun z hz e => h.dm n k z hn hk' hz (e ▸ hx)))
 · intro i x hi hx
   by_cases e : i = n
   · subst e; exact .inr hx
   · exact .inl (h.ohm i x hi (by rw [← hm1 i e]; exact hx))
 · intro i a' hi
   have hfun : (s.hold n a d).h i a' = if i = n ∧ a' = a then (fun y => s.h n a y || y == d) else s.h i a' := by
     funext y
     unfold St.hold
     by_cases e : i = n ∧ a' = a
     · obtain ⟨rfl, rfl⟩ := e; simp
     · rw [if_neg e]
       by_cases e1 : i = n
       · have e2 : a' ≠ a := fun e2 => e ⟨e1, e2⟩
         simp [e2]
       · simp [e1]
   rw [hfun]
   by_cases e : i = n ∧ a' = a
   · obtain ⟨rfl, rfl⟩ := e
     rw [if_pos ⟨rfl, rfl⟩]
     simp only [updV_at]
     exact hx.fx f
   · rw [if_neg e]
     have : updV G.hv n (.int .i64 a) x i (.int .i64 a') = G.hv i (.int .i64 a') := by
       unfold updV
       rw [if_neg]
       rintro ⟨e1, e2⟩
       injection e2 with _ e2
       exact e ⟨e1, by omega⟩
     simp only [this]
     exact (h.hbits i a' hi).fx f
 · intro i hi
   refine own_kept2 (h.pown i hi) hk (fun g hg => nX g (h.dpv i g hi hg).2.1 (fun z hz => h.pv_map hi hg hz hn))
 · intro i k x hi hk' hx hy
   by_cases e : i = n
   · subst e
     rcases hnew x hx with h2 | h2
     · exact h.dm i k x hi hk' h2 hy
     · have := (h.ent.is k x hk' hy).lt; omega
   · exact h.dm i k x hi hk' (by rw [← hm1 i e]; exact hx) hy
 · intro i x hi hx
   by_cases e : i = n
   · subst e
     rcases hnew x hx with h2 | h2
     · exact h.dmb i x hi h2
     · omega
   · exact h.dmb i x hi (by rw [← hm1 i e]; exact hx)
 · intro i hi
   have h1 := h.hcb i hi
   have h2 := h.hcb n hn
   dsimp only
   split
   · omega
   · omega
 · intro i hi
   have h1 := h.pdb i hi
   have : (s.hold n a d).pd i = s.pd i := rfl
   rw [this]
   omega
theorem Mem.put_ent {k c a : Nat} {x : Value} {e : Ending} (h : Mem p K w0 b O G w s) (hM : K.n2 = p.es.length) (hk2 : k < K.n2) (hc : c < p.F.toNat) (ha : a < p.F.toNat) (h0 : s.e k c a = false) (hx : BtV O w x (fun y => s.e k c y || y == a))
   (hp : PutT Tryz.prog 3 157 (.slice none 0 0) w K.er K.n2 G.em G.ec G.ev k (.int .i64 c) x e w') : ∃ O' G', e = .returned (.tuple #[]) ∧ Mem p K w0 b O' G' w' (s.ent k c a) ∧ Fx O O' w w' := by
 obtain ⟨m', he, hT, hk, hm1, hm2⟩ := hp
 have hnew : ∀ x, m' k = some x → G.em k = some x ∨ w.heap.size ≤ x := fun x hx => by
   rcases hm2 with h2 | ⟨-, y, h2, h3⟩
   · exact .inl (by rw [← h2]; exact hx)
   · rw [h2] at hx; injection hx with hx; exact .inr (by omega)
 have hown : ∀ x, (O x ∨ m' k = some x) → O x ∨ w.heap.size ≤ x := fun x hx => by
   rcases hx with hx | hx
   · exact .inl hx
   · rcases hnew x hx with h2 | h2
     · exact .inl (h.oem k x hk2 h2)
     · exact .inr h2
 have hXm : ∀ y, y ∈ K.er :: (G.em k).toList → y = K.er ∨ G.em k = some y := fun y hy => by
   rcases List.mem_cons.1 hy with h2 | h2
   · exact .inl h2
   · exact .inr (by simpa using h2)
 have f : Fx O (fun x => O x ∨ m' k = some x) w w' := Fx.of hk (fun x hx => by
   rcases hXm x hx with rfl | h2
   · exact .inl h.oe
   · exact .inl (h.oem k x hk2 h2)) hown
 have hu := unhE_ent (p := p) (by omega) hc ha h0
 have hb : b < w.heap.size := (h.og b h.ob).2
 have hpr : K.pr < w.heap.size := (h.og _ h.opr).2
 have nX : ∀ y, y ≠ K.er → (∀ z, G.em k = some z → y ≠ z) → y ∉ K.er :: (G.em k).toList := fun y h1 h2 hy => by
   rcases hXm y hy with h3 | h3
   · exact h1 h3
   · exact h2 y h3 rfl
 have pX : K.pr ∉ K.er :: (G.em k).toList := nX _ h.dist.2.2.2.2.2.symm (fun z hz e => (h.deb k z hk2 hz).2 e.symm)
 have esm : ∀ i, i < K.n2 → ∃ x, m' i = some x := fun i hi => by
   by_cases e : i = k
   · subst e
     rcases hm2 with h2 | ⟨-, y, h2, -⟩
     · rw [h2]; exact h.esm i hi
     · exact ⟨y, h2⟩
   · rw [hm1 i e]; exact h.esm i hi
 refine ⟨fun x => O x ∨ m' k = some x, { G with em := m', ec := fun i => if i = k then G.ec k + 1 else G.ec i, ev := updV G.ev k (.int .i64 c) x }, he, ?_, f⟩
 refine { hsm := h.hsm, esm := esm, low := f.below h.low (fun x hx => (h.og x hx).1), og := ?_, ob := .inl h.ob, box := ?_, start := ⟨h.start.1.fx f, fun i hi => (h.start.1.cell f i).trans (h.start.2 i hi)⟩, out := h.out.fx f, calls := h.calls.fx f, rets := h.rets.fx f, seeds := h.seeds.fx f, held := ?_, ent := hT, oh := .inl h.oh, oe := .inl h.oe, opr := .inl h.opr, ohm := fun i x hi hx => .inl (h.ohm i x hi hx), oem := ?_, opv := fun i x hi hx => .inl (h.opv i x hi hx), hbits := fun i a hi => (h.hbits i a hi).fx f, ebits := ?_, prow := fun i hi => (hk.cell K.pr i hpr pX).trans (h.prow i hi), pfr := fun i => (hk.frozen K.pr i hpr pX).trans (h.pfr i), pown := ?_, dist := h.dist, dm := ?_, dmb := h.dmb, deb := ?_, dpv := h.dpv, dpp := h.dpp, queue := h.queue.fx f, rank := ⟨⟨rfl, fun h => absurd h (by omega)⟩, h.rank.2⟩, hcb := h.hcb, ecb := ?_, pdb := h.pdb, hneg := h.hneg }
 · intro x hx
   rcases hx with hx | hx
   · exact ⟨(h.og x hx).1, Nat.lt_of_lt_of_le (h.og x hx).2 f.size⟩
   · refine ⟨?_, (hT.is k x hk2 hx).lt⟩
     rcases hnew x hx with h2 | h2
     · exact (h.og x (h.oem k x hk2 h2)).1
     · have := h.low.size; omega
 · exact hk.blk (nX b h.dist.2.1 (fun z hz e => (h.deb k z hk2 hz).1 e.symm)) h.box
 · refine h.held.kept hk (nX _ h.dist.2.2.2.1 (fun z hz => h.held.rtag.ne_map (h.ent.is k z hk2 hz).obj)) (fun i x hi hx => nX x (h.ent.rtag.ne_map (h.held.is i x hi hx).obj).symm (fun z hz e => h.dm i k x hi hk2 hx (e ▸ hz)))
 · intro i x hi hx
   by_cases e : i = k
   · subst e; exact .inr hx
   · exact .inl (h.oem i x hi (by rw [← hm1 i e]; exact hx))
 · intro i c' hi
   have hfun : (s.ent k c a).e i c' = if i = k ∧ c' = c then (fun y => s.e k c y || y == a) else s.e i c' := by
     funext y
     unfold St.ent
     by_cases e : i = k ∧ c' = c
     · obtain ⟨rfl, rfl⟩ := e; simp
     · rw [if_neg e]
       by_cases e1 : i = k
       · have e2 : c' ≠ c := fun e2 => e ⟨e1, e2⟩
         simp [e2]
       · simp [e1]
   rw [hfun]
   by_cases e : i = k ∧ c' = c
   · obtain ⟨rfl, rfl⟩ := e
     rw [if_pos ⟨rfl, rfl⟩]
     simp only [updV_at]
     exact hx.fx f
   · rw [if_neg e]
     have : updV G.ev k (.int .i64 c) x i (.int .i64 c') = G.ev i (.int .i64 c') := by
       unfold updV
       rw [if_neg]
       rintro ⟨e1, e2⟩
       injection e2 with _ e2
       exact e ⟨e1, by omega⟩
     simp only [this]
     exact (h.ebits i c' hi).fx f
 · intro i hi
   refine own_kept2 (h.pown i hi) hk (fun g hg => nX g (h.dpv i g hi hg).2.2.1 (fun z hz => h.pv_emap hi hg hz hk2))
 · intro i j x hi hj hx hy
   by_cases e : j = k
   · subst e
     rcases hnew x hy with h2 | h2
     · exact h.dm i j x hi hj hx h2
     · have := (h.held.is i x hi hx).lt; omega
   · exact h.dm i j x hi hj hx (by rw [← hm1 j e]; exact hy)
 · intro i x hi hx
   by_cases e : i = k
   · subst e
     rcases hnew x hx with h2 | h2
     · exact h.deb i x hi h2
     · omega
   · exact h.deb i x hi (by rw [← hm1 i e]; exact hx)
 · intro i hi
   have h1 := h.ecb i hi
   have h2 := h.ecb k hk2
   dsimp only
   split
   · omega
   · omega
theorem Mem.set_queue {q : List Nat} {rA qA : Option Addr} {rc qn qc : Nat} (h : Mem p K w0 b O G w s) (hq : SInO O w qA qn qc (ofNats q)) (hr : SIn w rA 0 rc []) :
   Mem p K w0 b O { G with qA := qA, qn := qn, qc := qc, rA := rA, rc := rc } ((w.setCell ⟨b, 15, none⟩ (.slice rA 0 rc)).setCell ⟨b, 16, none⟩ (.slice qA qn qc)) (s.toq q) ∧ Fx O O w ((w.setCell ⟨b, 15, none⟩ (.slice rA 0 rc)).setCell ⟨b, 16, none⟩ (.slice qA qn qc)) := by
 have hk : Kept [b] w ((w.setCell ⟨b, 15, none⟩ (.slice rA 0 rc)).setCell ⟨b, 16, none⟩ (.slice qA qn qc)) := ((Kept.refl [b] w).set b 15 _ (.inl (by simp))).set b 16 _ (.inl (by simp))
 have f : Fx O O w ((w.setCell ⟨b, 15, none⟩ (.slice rA 0 rc)).setCell ⟨b, 16, none⟩ (.slice qA qn qc)) := Fx.of hk (by intro x hx; simp at hx; subst hx; exact .inl h.ob) (fun _ h => .inl h)
 have hB := (h.box.set 15 (.slice rA 0 rc)).set 16 (.slice qA qn qc)
 obtain ⟨w2, hw2⟩ : ∃ w2, w2 = (w.setCell ⟨b, 15, none⟩ (.slice rA 0 rc)).setCell ⟨b, 16, none⟩ (.slice qA qn qc) := ⟨_, rfl⟩
 rw [← hw2] at hk f hB ⊢
 have hpr : K.pr < w.heap.size := (h.og _ h.opr).2
 refine ⟨?_, f⟩
 refine { hsm := h.hsm, esm := h.esm, low := f.below h.low (fun x hx => (h.og x hx).1), og := fun x hx => ⟨(h.og x hx).1, Nat.lt_of_lt_of_le (h.og x hx).2 f.size⟩, ob := h.ob, box := hB, start := ⟨h.start.1.fx f, fun i hi => (h.start.1.cell f i).trans (h.start.2 i hi)⟩, out := h.out.fx f, calls := h.calls.fx f, rets := h.rets.fx f, seeds := h.seeds.fx f, held := h.held.kept hk (by simpa using h.dist.1.symm) (fun n x hn hx => by simpa using (h.dmb n x hn hx).1), ent := h.ent.kept hk (by simpa using h.dist.2.1.symm) (fun n x hn hx => by simpa using (h.deb n x hn hx).1), oh := h.oh, oe := h.oe, opr := h.opr, ohm := h.ohm, oem := h.oem, opv := h.opv, hbits := fun i a hi => (h.hbits i a hi).fx f, ebits := fun i a hi => (h.ebits i a hi).fx f, prow := fun i hi => (hk.cell K.pr i hpr (by simpa using h.dist.2.2.1.symm)).trans (h.prow i hi), pfr := fun i => (hk.frozen K.pr i hpr (by simpa using h.dist.2.2.1.symm)).trans (h.pfr i), pown := fun i hi => own_kept2 (h.pown i hi) hk (fun g hg => by simpa using (h.dpv i g hi hg).1), dist := h.dist, dm := h.dm, dmb := h.dmb, deb := h.deb, dpv := h.dpv, dpp := h.dpp, queue := hq.fx f, rank := ⟨⟨rfl, fun h => absurd h (by omega)⟩, hr.2⟩, hcb := h.hcb, ecb := h.ecb, pdb := h.pdb, hneg := h.hneg }
theorem Mem.set_pend {n : Nat} {l : List (Nat × Nat)} {v : Value} {w1 : World} (h : Mem p K w0 b O G w s) (hn : n < K.n1) (hk1 : Kept (G.pv n).ownBlock.toList w w1) (hv : w1.ownsRow w0.heap.size 72 2 v l.length (pcells l))
   (hg : ∀ g, v.ownBlock = some g → (G.pv n).ownBlock = some g ∨ w.heap.size ≤ g) (hl : l.length + unh p s ≤ (trip p.ns.length p.F.toNat).length) :
   ∃ O' G', Mem p K w0 b O' G' (w1.setCell ⟨K.pr, n, none⟩ v) (s.pend n l) ∧ Fx O O' w (w1.setCell ⟨K.pr, n, none⟩ v) ∧ ∀ x, O' x → ((G.pv n).ownBlock = some x → v.ownBlock = some x) := by
 have hprw : K.pr < w.heap.size := (h.og _ h.opr).2
 have nP : ∀ g, (G.pv n).ownBlock = some g → g ≠ K.pr := fun g hg' => (h.dpv n g hn hg').2.2.2
 have pN : K.pr ∉ (G.pv n).ownBlock.toList := fun hm => nP K.pr (by simpa using hm) rfl
 have hk : Kept (K.pr :: (G.pv n).ownBlock.toList) w (w1.setCell ⟨K.pr, n, none⟩ v) := (keptWide hk1 (fun x hx => List.mem_cons_of_mem _ hx)).set K.pr n v (.inl (by simp))
 have hXm : ∀ y, y ∈ K.pr :: (G.pv n).ownBlock.toList → y = K.pr ∨ (G.pv n).ownBlock = some y := fun y hy => by
   rcases List.mem_cons.1 hy with h2 | h2
   · exact .inl h2
   · exact .inr (by simpa using h2)
 have nX : ∀ y, y ≠ K.pr → (∀ z, (G.pv n).ownBlock = some z → y ≠ z) → y ∉ K.pr :: (G.pv n).ownBlock.toList := fun y h1 h2 hy => by
   rcases hXm y hy with h3 | h3
   · exact h1 h3
   · exact h2 y h3 rfl
 have hvP : ∀ g, v.ownBlock = some g → g ≠ K.pr := fun g hg' => by
   rcases hg g hg' with h2 | h2
   · exact nP g h2
   · omega
 have f : Fx O (fun x => (O x ∧ (G.pv n).ownBlock ≠ some x) ∨ v.ownBlock = some x) w (w1.setCell ⟨K.pr, n, none⟩ v) := Fx.of hk (fun x hx => by
   rcases hXm x hx with rfl | h2
   · exact .inl h.opr
   · exact .inl (h.opv n x hn h2)) (fun x hx => by
   rcases hx with hx | hx
   · exact .inl hx.1
   · rcases hg x hx with h2 | h2
     · exact .inl (h.opv n x hn h2)
     · exact .inr h2)
 have hpr1 : w1.cell? ⟨K.pr, n, none⟩ = some (G.pv n) := (hk1.cell K.pr n hprw pN).trans (h.prow n hn)
 have hkS : Kept [K.pr] w1 (w1.setCell ⟨K.pr, n, none⟩ v) := (Kept.refl [K.pr] w1).set K.pr n v (.inl (by simp))
 have hO : ∀ x, O x → (∀ z, (G.pv n).ownBlock = some z → x ≠ z) → (O x ∧ (G.pv n).ownBlock ≠ some x) ∨ v.ownBlock = some x := fun x h1 h2 => .inl ⟨h1, fun e => h2 x e rfl⟩
 refine ⟨fun x => (O x ∧ (G.pv n).ownBlock ≠ some x) ∨ v.ownBlock = some x, { G with pv := fun i => if i = n then v else G.pv i }, ?_, f, fun x hx hx2 => ?_⟩
 refine { hsm := h.hsm, esm := h.esm, low := f.below h.low (fun x hx => (h.og x hx).1), og := ?_, ob := hO b h.ob (fun z hz e => (h.dpv n z hn hz).1 e.symm), box := ?_, start := ⟨h.start.1.fx f, fun i hi => (h.start.1.cell f i).trans (h.start.2 i hi)⟩, out := h.out.fx f, calls := h.calls.fx f, rets := h.rets.fx f, seeds := h.seeds.fx f, held := ?_, ent := ?_, oh := hO _ h.oh (fun z hz e => (h.dpv n z hn hz).2.1 e.symm), oe := hO _ h.oe (fun z hz e => (h.dpv n z hn hz).2.2.1 e.symm), opr := hO _ h.opr (fun z hz e => (h.dpv n z hn hz).2.2.2 e.symm), ohm := fun i x hi hx => hO x (h.ohm i x hi hx) (fun z hz => (h.pv_map hn hz hx hi).symm), oem := fun i x hi hx => hO x (h.oem i x hi hx) (fun z hz => (h.pv_emap hn hz hx hi).symm), opv := ?_, hbits := fun i a hi => (h.hbits i a hi).fx f, ebits := fun i a hi => (h.ebits i a hi).fx f, prow := ?_, pfr := ?_, pown := ?_, dist := h.dist, dm := h.dm, dmb := h.dmb, deb := h.deb, dpv := ?_, dpp := ?_, queue := h.queue.fx f, rank := ⟨⟨rfl, fun h => absurd h (by omega)⟩, h.rank.2⟩, hcb := h.hcb, ecb := h.ecb, pdb := ?_, hneg := h.hneg }
 · intro x hx
   rcases hx with hx | hx
   · exact ⟨(h.og x hx.1).1, Nat.lt_of_lt_of_le (h.og x hx.1).2 f.size⟩
   · have h1 := own_lt2 hv hx
     refine ⟨?_, by simpa [World.setCell] using h1⟩
     rcases hg x hx with h2 | h2
     · exact (h.og x (h.opv n x hn h2)).1
     · have := h.low.size; omega
 · exact hk.blk (nX b h.dist.2.2.1 (fun z hz e => (h.dpv n z hn hz).1 e.symm)) h.box
 · exact h.held.kept hk (nX _ h.dist.2.2.2.2.1 (fun z hz e => (h.dpv n z hn hz).2.1 e.symm)) (fun i x hi hx => nX x (h.dmb i x hi hx).2 (fun z hz => (h.pv_map hn hz hx hi).symm))
 · exact h.ent.kept hk (nX _ h.dist.2.2.2.2.2 (fun z hz e => (h.dpv n z hn hz).2.2.1 e.symm)) (fun i x hi hx => nX x (h.deb i x hi hx).2 (fun z hz => (h.pv_emap hn hz hx hi).symm))
 · intro i x hi hx
   by_cases e : i = n
   · subst e
     simp only [if_true] at hx
     exact .inr hx
   · simp only [if_neg e] at hx
     exact hO x (h.opv i x hi hx) (fun z hz e2 => e (h.dpp i n x hi hn hx (e2 ▸ hz)))
 · intro i hi
   by_cases e : i = n
   · subst e
     simp only [if_true]
     exact set_same hpr1
   · simp only [if_neg e]
     rw [set_other (.inr (fun h => e h.symm))]
     exact (hk1.cell K.pr i hprw pN).trans (h.prow i hi)
 · intro i
   have := (hk1.frozen K.pr i hprw pN).trans (h.pfr i)
   simpa using this
 · intro i hi
   by_cases e : i = n
   · subst e
     have : (s.pend i l).pd i = l := if_pos rfl
     simp only [if_true, this]
     exact own_kept2 hv hkS (fun g hg' => by simpa using hvP g hg')
   · have : (s.pend n l).pd i = s.pd i := if_neg e
     simp only [if_neg e, this]
     exact own_kept2 (h.pown i hi) hk (fun g hg' => nX g (h.dpv i g hi hg').2.2.2 (fun z hz e2 => e (h.dpp i n g hi hn hg' (e2 ▸ hz))))
 · intro i x hi hx
   by_cases e : i = n
   · subst e
     simp only [if_true] at hx
     rcases hg x hx with h2 | h2
     · exact h.dpv i x hi h2
     · have h1 := (h.og b h.ob).2; have h3 := (h.og _ h.oh).2; have h4 := (h.og _ h.oe).2
       exact ⟨by omega, by omega, by omega, by omega⟩
   · simp only [if_neg e] at hx
     exact h.dpv i x hi hx
 · intro i j x hi hj hx hy
   by_cases e : i = n
   · by_cases e' : j = n
     · omega
     · subst e
       simp only [if_true] at hx
       simp only [if_neg e'] at hy
       rcases hg x hx with h2 | h2
       · exact h.dpp i j x hi hj h2 hy
       · have := (h.og x (h.opv j x hj hy)).2; omega
   · simp only [if_neg e] at hx
     by_cases e' : j = n
     · subst e'
       simp only [if_true] at hy
       rcases hg x hy with h2 | h2
       · exact h.dpp i j x hi hj hx h2
       · have := (h.og x (h.opv i x hi hx)).2; omega
     · simp only [if_neg e'] at hy
       exact h.dpp i j x hi hj hx hy
 · intro i hi
   by_cases e : i = n
   · subst e
     have : (s.pend i l).pd i = l := if_pos rfl
     rw [this]
     exact hl
   · have : (s.pend n l).pd i = s.pd i := if_neg e
     rw [this]
     exact h.pdb i hi
 · rcases hx with hx | hx
   · exact absurd hx2 hx.2
   · exact hx
end Go.Proofs.YtooejoajojanjaaGreatDoor
namespace Go.Df
open Go.RowKit
abbrev SXp (X : List Nat) (ga gb : Nat) (W w' : World) : Prop := Kept X W w' ∧ (∀ o, w'.cell? ⟨ga, o, none⟩ = W.cell? ⟨ga, o, none⟩) ∧ (∀ o, w'.cell? ⟨gb, o, none⟩ = W.cell? ⟨gb, o, none⟩)
theorem SXp.of {X : List Nat} {ga gb : Nat} {W w' : World} (h : Kept X W w') (ha : ga < W.heap.size) (hb : gb < W.heap.size) (xa : ga ∉ X) (xb : gb ∉ X) : SXp X ga gb W w' := ⟨h, fun o => h.cell ga o ha xa, fun o => h.cell gb o hb xb⟩
theorem Rd.new2 (w : World) (b : Nat) (u0 u1 : Value) (t : TypeId) (hb : b = w.heap.size) : Rd (w.alloc (.cells #[u0, u1] t)) 2 (some ⟨b, 0, none⟩) 1 [u0, u1] := by
 subst hb
 refine ⟨rfl, fun _ => ⟨_, _, rfl, by simp, fun j _ => ?_⟩⟩
 rw [World.cell?_alloc_new, Nat.zero_add]; simp
namespace If
theorem trip_len (N F : Nat) : (trip N F).length = N * (F * F) := by
 unfold trip
 have h1 : ∀ (l : List Nat) (n : Nat), (l.flatMap fun a => (List.range F).map fun d => (n, a, d)).length = l.length * F := fun l n => by
   induction l with
   | nil => simp
   | cons x l ih => rw [List.flatMap_cons, List.length_append, ih, List.length_map, List.length_range, List.length_cons, Nat.add_mul, Nat.one_mul, Nat.add_comm]
 have h2 : ∀ l : List Nat, (l.flatMap fun n => (List.range F).flatMap fun a => (List.range F).map fun d => (n, a, d)).length = l.length * (F * F) := fun l => by
   induction l with
   | nil => simp
   | cons x l ih => rw [List.flatMap_cons, List.length_append, ih, h1, List.length_range, List.length_cons, Nat.add_mul, Nat.one_mul, Nat.add_comm]
 rw [h2, List.length_range]
theorem trip_le {N F : Nat} (hN : N ≤ 1000000) (hF : F ≤ 1024) : (trip N F).length ≤ 1048576000000 := by
 rw [trip_len]
 have h1 : F * F ≤ 1024 * 1024 := Nat.mul_le_mul hF hF
 have h2 : N * (F * F) ≤ 1000000 * (1024 * 1024) := Nat.mul_le_mul hN h1
 omega
end If
end Go.Df
namespace Go.Proofs.YtooejoajojanjaaGreatDoor
open Go.RowKit Go.Df Go.Df.If
attribute [local go_sem ↓] Go.wp_at_zero Go.wp_at_succ
theorem pair_info : (Tryz.prog.info? 72).map (fun i => (i.zero, i.size, i.bytes)) = some (some (.agg #[.int .i64 0, .int .i64 0]), 2, 16) := by kernel_rfl
theorem nodup_le {q : List Nat} {N : Nat} (hq : q.Nodup) (hN : ∀ x ∈ q, x < N) : q.length ≤ N := by
 have h1 := List.Nodup.length_le_of_subset hq (l₂ := List.range N) (fun x hx => List.mem_range.2 (hN x hx))
 rwa [List.length_range] at h1
theorem nodup_lt {q : List Nat} {N n : Nat} (hq : q.Nodup) (hN : ∀ x ∈ q, x < N) (hn : n ∉ q) (hnN : n < N) : q.length < N := by
 have h1 := nodup_le (q := n :: q) (N := N) (List.nodup_cons.2 ⟨hn, hq⟩) (fun x hx => by
   rcases List.mem_cons.1 hx with rfl | hx
   · exact hnN
   · exact hN x hx)
 simp at h1; omega
def GetMem (p : Pb) (K : Kn) (w0 : World) (b : Nat) (O : Nat → Prop) (w : World) (s : St) (e : Ending) (w' : World) : Prop := ∃ O' G', e = .returned (.tuple #[]) ∧ Mem p K w0 b O' G' w' s ∧ Fx O O' w w'
theorem wl_ok {q : List Nat} {N : Nat} (hq : q.Nodup) (hN : ∀ x ∈ q, x < N) (h8 : N ≤ 8192) : Wl.chk [] (ofNats q) = 0 := by
 have hlen : q.length ≤ N := nodup_le hq hN
 refine Wl.chk_ok (by simp) (by rw [ofNats_len]; omega) (fun j hj => ?_)
 rw [ofNats_len] at hj
 unfold Wl.err
 rw [gi_ofNats hj]
 have h1 : Wl.allowed 0 (q[j] : Int) = true := by
   have := hN _ (List.getElem_mem hj)
   unfold Wl.allowed
   simp
   omega
 simp only [List.length_nil]
 rw [h1]
 have h2 : ¬ ((q[j] : Int) ∈ (ofNats q).take j) := by
   intro hm
   unfold ofNats at hm
   rw [← List.map_take, List.mem_map] at hm
   obtain ⟨y, hy, e⟩ := hm
   have e : y = q[j] := by omega
   subst e
   obtain ⟨i, hi, e⟩ := List.getElem_of_mem hy
   rw [List.length_take] at hi
   rw [List.getElem_take] at e
   exact List.pairwise_iff_getElem.1 hq i j (by omega) hj (by omega) e
 simp [h2]
theorem wl_perr {q : List Nat} {N n : Nat} (hq : q.Nodup) (hN : ∀ x ∈ q, x < N) (h8 : N ≤ 8192) (hn : n < N) (hl : q.length < N) : Wl.perr [] (ofNats q) n = 0 := by
 have h1 := wl_ok hq hN h8
 have hal : Wl.allowed 0 (n : Int) = true := by unfold Wl.allowed; simp; omega
 unfold Wl.perr
 rw [if_neg (by rw [h1]; simp), if_neg (by rw [List.length_nil, hal]; simp), if_neg (by rw [ofNats_len]; rintro ⟨-, h9⟩; omega)]
set_option maxRecDepth 100000 in
set_option maxHeartbeats 40000000 in
theorem add_any {p : Pb} {K : Kn} {w0 : World} {b : Nat} {O : Nat → Prop} {G : Gh} {s : St} (w : World) (n a d : Nat) (hI : Inp p K w0) (ho : Ok p) (hw : Wf p s) (hm : Mem p K w0 b O G w s) (hn : n < p.ns.length) (ha : a < p.F.toNat) (hd : d < p.F.toNat) :
   Calls Tryz.prog 51 #[.pointer (some ⟨b, 0, none⟩), .int .i64 n, .int .i64 a, .int .i64 d] w (GetMem p K w0 b O w (s.add n a d)) := by
 obtain ⟨i0, hi, hz0, hz1, hz2⟩ := info_parts pair_info
 have hF := ho.f2
 have hF2 : p.F.toNat ≤ 1024 := by omega
 have hN1 : K.n1 = p.ns.length := hI.nd.1.symm
 have hN2 : p.ns.length ≤ 8192 := (sup_parts ho.sup).1
 have hnK : n < K.n1 := by omega
 have hnK' : (n : Int) < (K.n1 : Int) := by omega
 have HN1 := Lib.hid hN1
 have HM := Lib.hid hm
 have HW := Lib.hid hw
 have HI := Lib.hid hI
 have HO := Lib.hid ho
 have B0 := hm.box
 unfold sbox at B0
 have ⟨LB, CB, FB⟩ := B0
 obtain ⟨A, k, c, l, hv, hbt, hk, hA, hsf, hhas⟩ := hm.hbits n a hnK
 obtain ⟨bm, hbm⟩ := hm.hsm n hnK
 have hcn : G.hc n < maxLen := by
   have h1 := hm.hcb n hnK
   have h3 := trip_le (N := p.ns.length) (F := p.F.toNat) (by omega) (by omega)
   unfold maxLen
   omega
 have r0 : w.cell? ⟨K.hr, n, none⟩ = some (.map (some bm)) := by have := hm.held.cell hnK; rwa [hbm] at this
 have lhr : K.hr < w.heap.size := (hm.og _ hm.oh).2
 have HV := Lib.hid hv
 have HBM := Lib.hid hbm
 have HBT := Lib.hid hbt
 have HSF := Lib.hid hsf
 have HH := Lib.hid hhas
 have HA := Lib.hid hA
 have hhd := hhas d
 clear hm hw hI ho hbt hsf hhas hA hv hbm hN1
 cases hh : s.h n a d with
 | true =>
   rw [hh] at hhd
   have HE : Hid (s.add n a d = s) := by show _ = _; unfold St.add; rw [if_pos hh]
   clear hh
   go_enter Tryz.func51, Tryz.ntmps51
   go_wp2_with (go_at_call 89; refine (insert_has K.hr K.n1 n a d bm G.hm G.hc G.hv A k c l _ HM.out.held hnK HBM.out (by omega) (by omega) HV.out HBT.out hhd).mono ?_; rintro e w1 ⟨rfl, rfl⟩)
   go_end0
   exact ⟨O, G, rfl, HM.out.eq HE.out.symm, Fx.refl _ _⟩
 | false =>
 rw [hh] at hhd
 have HH0 := Lib.hid hh
 clear hh
 go_enter Tryz.func51, Tryz.ntmps51
 go_upto_region 1 with (go_at_call 89; refine (insert_new K.hr K.n1 n a d bm G.hm G.hc G.hv A k c l _ HM.out.held hnK HBM.out (by omega) (by omega) HV.out HBT.out hk HA.out hcn hhd).mono ?_; rintro e w4 ⟨w3, A2, k2, l2, rfl, hb3, hbt2, hhas2, hk2, hfr2, hA2, hput⟩)
 have M3 := Lib.hid (HM.out.call hb3)
 have F3 : Fx O O w w3 := (Fx.refl O w).call hb3
 have HBV : Hid (BtV O w3 (.slice A2 k2 k2) (fun y => s.h n a y || y == d)) := Lib.hid ⟨A2, k2, k2, l2, rfl, hbt2, hk2, hA2, fun _ x hx => ⟨(hfr2 x hx).2, fun hox => by have h1 := HM.out.og _ hox; have h2 := (hfr2 x hx).1; omega⟩, fun x => by rw [hhas2, HH.out]⟩
 obtain ⟨O4, G4, -, M4', F4, hpv4⟩ := M3.out.put_held HN1.out hnK ha hd HH0.out HBV.out hput
 clear CB FB hbt2 hhas2 hfr2 hA2 HBT HSF HA r0
 have M4 := Lib.hid M4'
 have F04 := F3.trans F4
 have B4 := M4.out.box
 unfold sbox at B4
 have ⟨L4, C4, F4'⟩ := B4
 have hpr4 : K.pr < w4.heap.size := (M4.out.og _ M4.out.opr).2
 obtain ⟨A5, m5, c5, hpv5, hm5⟩ : ∃ A9 m9 c9, G4.pv n = .slice A9 m9 c9 ∧ m9 = (s.pd n).length := by
   rcases (M4.out.pown n hnK).2 with ⟨h1, h2⟩ | ⟨g, cap, cur, h1, _⟩
   · exact ⟨_, _, _, h1, h2.symm⟩
   · exact ⟨_, _, _, h1, rfl⟩
 have r4 : w4.cell? ⟨K.pr, n, none⟩ = some (.slice A5 m5 c5) := by rw [← hpv5]; exact M4.out.prow n hnK
 have HUH := Lib.hid (unh_hold (p := p) hn ha hd HH0.out)
 have HUN : Hid (∀ i, i < K.n1 → (s.pd i).length + 1 + unh p (s.hold n a d) ≤ (trip p.ns.length p.F.toNat).length) := fun i hi => by
   have h1 := HM.out.pdb i hi
   have h2 := HUH.out
   omega
 clear M4' hpv5 M3 HBV hpv4 hput
 by_cases hp0 : m5 = 0
 · -- the node comes into the queue
   subst hp0
   have hpd : s.pd n = [] := List.eq_nil_of_length_eq_zero hm5.symm
   have HEQ : Hid (s.add n a d = ((s.hold n a d).toq (s.q ++ [n])).pend n (((s.hold n a d).toq (s.q ++ [n])).pd n ++ [(a, d)])) := Lib.hid (add_eq HH0.out hpd)
   have hnq : n ∉ s.q := fun hm => (HW.out.qp n).1 hm hpd
   have hql : ∀ x ∈ s.q, x < p.ns.length := fun x hx => by
     have h1 := (HW.out.qp x).1 hx
     obtain ⟨y, hy⟩ := List.exists_mem_of_ne_nil _ h1
     exact (HW.out.rng _ _ _ (HW.out.ph x y hy)).1
   have hqlen : s.q.length < p.ns.length := nodup_lt HW.out.qn hql hnq hn
   have HPE := Lib.hid (wl_perr HW.out.qn hql hN2 hn hqlen)
   have HNM : Hid ((n : Int) ∉ ofNats s.q) := by
     show ¬ _
     intro hm
     unfold ofNats at hm
     rw [List.mem_map] at hm
     obtain ⟨y, hy, e⟩ := hm
     exact hnq (by have e : y = n := by omega
                   rw [← e]; exact hy)
   have HINS : Hid (Wl.ins (ofNats s.q) (Wl.place [] (ofNats s.q) n) n = ofNats (s.q ++ [n])) := by
     show _ = _
     unfold Wl.ins Wl.place
     rw [if_neg (by simp), List.take_of_length_le (Nat.le_refl _), List.drop_of_length_le (Nat.le_refl _)]
     simp [ofNats]
   have HQ4 := Lib.hid M4.out.queue
   have HR4 := Lib.hid M4.out.rank
   clear hpd hnq hql hm5
   go_upto_region 3 with (go_at_call 90; refine (push_new G4.rA G4.qA 0 G4.rc G4.qn G4.qc [] (ofNats s.q) n _ HR4.out.1 HQ4.out.1.1 (fun _ => rfl) HQ4.out.1.2.2.2 HPE.out HNM.out).mono ?_; rw [HINS.out]; rintro e w5 ⟨rA, rn, rc, qA, qn, qc, rfl, hr5, hq5, hb5, hfr5, hfq5⟩)
   obtain rfl : rn = 0 := hr5.1.1.symm
   refine wp_named (fun V => ∃ g, w5.heap.size = g ∧ Blk V g [.slice rA 0 rc, .slice qA qn qc] ∧ Kept [] w5 V) ⟨_, rfl, Blk.new _ _ _ _ rfl, (Kept.refl _ _).alloc _⟩ ?_
   rintro V ⟨g, eg, Bg, hkV⟩
   rw [eg]
   have ⟨Lg, Cg, Fg⟩ := Bg
   have M5 := M4.out.call hb5
   have MV := Lib.hid (M5.call (hkV.toBelow))
   have FV : Fx O O4 w V := (F04.call hb5).trans (.same hkV)
   have HQV : Hid (SInO O4 V qA qn qc (ofNats (s.q ++ [n]))) := Lib.hid ((SInO.new (O := O4) hq5 hfq5 (fun x hx => (M4.out.og x hx).2)).fx (.same hkV))
   have HRV : Hid (SIn V rA 0 rc []) := Lib.hid (hr5.kept hkV)
   have BV := MV.out.box
   unfold sbox at BV
   have ⟨LV, CV, FVb⟩ := BV
   clear C4 F4' r4 eg HQ4 HR4 hq5 hr5
   go_upto_region 5 with fail
   have hset := MV.out.set_queue HQV.out HRV.out
   refine wp_named (fun X => Mem p K w0 b O4 { G4 with qA := qA, qn := qn, qc := qc, rA := rA, rc := rc } X ((s.hold n a d).toq (s.q ++ [n])) ∧ Fx O4 O4 V X) hset ?_
   rintro X ⟨MX', FX'⟩
   have MX := Lib.hid MX'
   have FXX := FV.trans FX'
   obtain ⟨GX, hGX⟩ : ∃ GX, GX = { G4 with qA := qA, qn := qn, qc := qc, rA := rA, rc := rc } := ⟨_, rfl⟩
   obtain ⟨sX, hsX⟩ : ∃ sX, sX = (s.hold n a d).toq (s.q ++ [n]) := ⟨_, rfl⟩
   rw [← hGX, ← hsX] at MX
   rw [← hsX] at HEQ
   have HUN : Hid (∀ i, i < K.n1 → (sX.pd i).length + 1 + unh p sX ≤ (trip p.ns.length p.F.toNat).length) := Lib.hid (by rw [hsX]; exact HUN.out)
   clear CV FVb Cg Fg hset MX' hGX hsX
   obtain ⟨A9, m9, c9, hpv9, hm9⟩ : ∃ A9 m9 c9, GX.pv n = .slice A9 m9 c9 ∧ m9 = (sX.pd n).length := by
     rcases (MX.out.pown n hnK).2 with ⟨h1, h2⟩ | ⟨g, cap, cur, h1, _⟩
     · exact ⟨_, _, _, h1, h2.symm⟩
     · exact ⟨_, _, _, h1, rfl⟩
   have OWN : Hid (X.ownsRow w0.heap.size 72 2 (.slice A9 m9 c9) m9 (pcells (sX.pd n))) := Lib.hid (by have h9 := MX.out.pown n hnK; rw [hpv9, ← hm9] at h9; exact h9)
   have BX := MX.out.box
   unfold sbox at BX
   have ⟨LX, CX, FX⟩ := BX
   have hprX : K.pr < X.heap.size := (MX.out.og _ MX.out.opr).2
   have hbX : b < X.heap.size := LX
   have rX : X.cell? ⟨K.pr, n, none⟩ = some (.slice A9 m9 c9) := by rw [← hpv9]; exact MX.out.prow n hnK
   have fX := MX.out.pfr n
   have xb : b ∉ (Value.slice A9 m9 c9).ownBlock.toList := fun hm => (MX.out.dpv n b hnK (by rw [hpv9]; simpa using hm)).1 rfl
   have xpr : K.pr ∉ (Value.slice A9 m9 c9).ownBlock.toList := fun hm => (MX.out.dpv n K.pr hnK (by rw [hpv9]; simpa using hm)).2.2.2 rfl
   have hbase : w0.heap.size ≤ X.heap.size := MX.out.low.size
   have hm9b : m9 ≤ 1048576000000 := by
     have h1 := MX.out.pdb n hnK
     have h3 := trip_le (N := p.ns.length) (F := p.F.toNat) (by omega) (by omega)
     omega
   have HAB : Hid (pcells (sX.pd n ++ [(a, d)]) = pcells (sX.pd n) ++ [.int .i64 a, .int .i64 d]) := Lib.hid (pcells_snoc _ _)
   have HPV := Lib.hid hpv9
   have HM9 := Lib.hid hm9
   clear hpv9 hm9
   refine wp_region_E 18 (fun w' => SXp (Value.slice A9 m9 c9).ownBlock.toList b K.pr X w') (by kernel_rfl) (by (first | (with_reducible assumption) | exact SXp.of (Kept.refl _ _).drew hbX hprX xb xpr | exact SXp.of (hHeld.1.alloc _) hbX hprX xb xpr | exact SXp.of HKA.out hbX hprX xb xpr)) (fun hHeld => ?_)
   refine WE_tk 0 ?_
   refine WE_tk 1 ?_
   refine WE_tk 2 ?_
   refine WE_tk 3 ?_
   refine WE_tk 4 ?_
   refine WE_tk 5 ?_
   refine WE_tk 6 ?_
   refine WE_tk 7 ?_
   refine WE_tk 8 ?_
   refine WE_tk 9 ?_
   refine WE_tk 10 ?_
   refine WE_tk 11 ?_
   refine WE_tk 12 ?_
   refine WE_tk 13 ?_
   refine WE_tk 14 ?_
   refine WE_step 15 rfl (by kernel_rfl) (fun K hK => ?_)
   go_simp
   refine hK.out _ _ ?_ (fun hHeld => ?_)
   · (first | (with_reducible assumption) | exact SXp.of (Kept.refl _ _).drew hbX hprX xb xpr | exact SXp.of (hHeld.1.alloc _) hbX hprX xb xpr | exact SXp.of HKA.out hbX hprX xb xpr)
   clear hK K
   refine WE_put ?_
   refine WE_step 16 rfl (by kernel_rfl) (fun K hK => ?_)
   (refine step_append_rd _ rfl _ _ 28 rfl w0.heap.size 72 i0 (.agg #[.int .i64 0, .int .i64 0]) 2 16 Tryz.underlying28 hi hz0 hz1 hz2 rfl (by decide) (.slice A9 m9 c9) m9 _ rfl (own_kept2 (X := []) OWN.out (((Kept.refl [] X).drew).alloc _) (by simp)) (some ⟨X.heap.size, 0, none⟩) 1 1 [.int .i64 a, .int .i64 d] rfl (Rd.new2 _ _ _ _ _ rfl) (fun h => by cases h) (by intro u hu; simp only [List.mem_cons, List.not_mem_nil, or_false] at hu; rcases hu with rfl | rfl <;> rfl) (m9 + 1) rfl _ HAB.out.symm (by unfold maxLen; omega) (by omega) (by simp; omega) ?_; intro A8 c8 w8 hown8 hk8 hat8; have hkA : Kept (Value.slice A9 m9 c9).ownBlock.toList X w8 := (((Kept.refl _ X).drew).alloc _).next hk8 (fun y hy => Or.inl hy); have fX8 := (hkA.frozen _ n hprX xpr).trans fX; have HO8 := Lib.hid hown8; have HKA := Lib.hid hkA; have HAT := Lib.hid hat8; clear hown8 hk8 hat8)
   refine hK.out _ _ ?_ (fun hHeld => ?_)
   · (first | (with_reducible assumption) | exact SXp.of (Kept.refl _ _).drew hbX hprX xb xpr | exact SXp.of (hHeld.1.alloc _) hbX hprX xb xpr | exact SXp.of HKA.out hbX hprX xb xpr)
   clear hK K
   refine WE_put ?_
   refine WE_tk 17 ?_
   refine WE_last rfl (by kernel_rfl) (fun K hK => ?_)
   go_simp
   refine hK.out _ _ ?_
   clear hK K
   go_wp2_with fail
   go_end0
   have hl8 : (sX.pd n ++ [(a, d)]).length = m9 + 1 := by rw [List.length_append, HM9.out]; rfl
   obtain ⟨O9, G9, M9, F9, -⟩ := MX.out.set_pend (w1 := w8) (v := .slice A8 (m9 + 1) c8) (l := sX.pd n ++ [(a, d)]) hnK (by rw [HPV.out]; exact HKA.out) (by rw [hl8]; exact HO8.out) (by rw [HPV.out]; intro g hg; rcases HAT.out g hg with h1 | h1; (· exact .inl h1); (· right; rw [h1]; simp)) (by
     have h1 := MX.out.pdb n hnK
     have h2 := HUN.out n hnK
     rw [hl8, HM9.out]
     omega)
   exact ⟨O9, G9, rfl, M9.eq HEQ.out.symm, FXX.trans F9⟩
 · have hpd : s.pd n ≠ [] := fun h => hp0 (by rw [hm5, h]; rfl)
   have HEQ : Hid (s.add n a d = (s.hold n a d).pend n ((s.hold n a d).pd n ++ [(a, d)])) := Lib.hid (add_eq2 HH0.out hpd)
   have hp1 : ((m5 : Int) == 0) = false := by simp; omega
   have hp2 : (m5 == 0) = false := by simp; omega
   obtain ⟨sX, hsX⟩ : ∃ sX, sX = s.hold n a d := ⟨_, rfl⟩
   rw [← hsX] at M4 HEQ
   have HUN : Hid (∀ i, i < K.n1 → (sX.pd i).length + 1 + unh p sX ≤ (trip p.ns.length p.F.toNat).length) := Lib.hid (by rw [hsX]; exact HUN.out)
   clear hpd hp0 hm5 hsX
   go_upto_region 5 with fail
   refine wp_named (fun X => Mem p K w0 b O4 G4 X sX ∧ Fx O O4 w X) ⟨by first | exact M4.out | exact M4.out.call (drewN_below _ _ _), by first | exact F04 | exact F04.trans (.same ((Kept.refl _ _).drewN _))⟩ ?_
   rintro X ⟨MX', FXX⟩
   have MX := Lib.hid MX'
   obtain ⟨GX, hGX⟩ : ∃ GX, GX = G4 := ⟨_, rfl⟩
   rw [← hGX] at MX
   clear C4 F4' r4 MX' hGX
   obtain ⟨A9, m9, c9, hpv9, hm9⟩ : ∃ A9 m9 c9, GX.pv n = .slice A9 m9 c9 ∧ m9 = (sX.pd n).length := by
     rcases (MX.out.pown n hnK).2 with ⟨h1, h2⟩ | ⟨g, cap, cur, h1, _⟩
     · exact ⟨_, _, _, h1, h2.symm⟩
     · exact ⟨_, _, _, h1, rfl⟩
   have OWN : Hid (X.ownsRow w0.heap.size 72 2 (.slice A9 m9 c9) m9 (pcells (sX.pd n))) := Lib.hid (by have h9 := MX.out.pown n hnK; rw [hpv9, ← hm9] at h9; exact h9)
   have BX := MX.out.box
   unfold sbox at BX
   have ⟨LX, CX, FX⟩ := BX
   have hprX : K.pr < X.heap.size := (MX.out.og _ MX.out.opr).2
   have hbX : b < X.heap.size := LX
   have rX : X.cell? ⟨K.pr, n, none⟩ = some (.slice A9 m9 c9) := by rw [← hpv9]; exact MX.out.prow n hnK
   have fX := MX.out.pfr n
   have xb : b ∉ (Value.slice A9 m9 c9).ownBlock.toList := fun hm => (MX.out.dpv n b hnK (by rw [hpv9]; simpa using hm)).1 rfl
   have xpr : K.pr ∉ (Value.slice A9 m9 c9).ownBlock.toList := fun hm => (MX.out.dpv n K.pr hnK (by rw [hpv9]; simpa using hm)).2.2.2 rfl
   have hbase : w0.heap.size ≤ X.heap.size := MX.out.low.size
   have hm9b : m9 ≤ 1048576000000 := by
     have h1 := MX.out.pdb n hnK
     have h3 := trip_le (N := p.ns.length) (F := p.F.toNat) (by omega) (by omega)
     omega
   have HAB : Hid (pcells (sX.pd n ++ [(a, d)]) = pcells (sX.pd n) ++ [.int .i64 a, .int .i64 d]) := Lib.hid (pcells_snoc _ _)
   have HPV := Lib.hid hpv9
   have HM9 := Lib.hid hm9
   clear hpv9 hm9
   refine wp_region_E 18 (fun w' => SXp (Value.slice A9 m9 c9).ownBlock.toList b K.pr X w') (by kernel_rfl) (by (first | (with_reducible assumption) | exact SXp.of (Kept.refl _ _).drew hbX hprX xb xpr | exact SXp.of (hHeld.1.alloc _) hbX hprX xb xpr | exact SXp.of HKA.out hbX hprX xb xpr)) (fun hHeld => ?_)
   refine WE_tk 0 ?_
   refine WE_tk 1 ?_
   refine WE_tk 2 ?_
   refine WE_tk 3 ?_
   refine WE_tk 4 ?_
   refine WE_tk 5 ?_
   refine WE_tk 6 ?_
   refine WE_tk 7 ?_
   refine WE_tk 8 ?_
   refine WE_tk 9 ?_
   refine WE_tk 10 ?_
   refine WE_tk 11 ?_
   refine WE_tk 12 ?_
   refine WE_tk 13 ?_
   refine WE_tk 14 ?_
   refine WE_step 15 rfl (by kernel_rfl) (fun K hK => ?_)
   go_simp
   refine hK.out _ _ ?_ (fun hHeld => ?_)
   · (first | (with_reducible assumption) | exact SXp.of (Kept.refl _ _).drew hbX hprX xb xpr | exact SXp.of (hHeld.1.alloc _) hbX hprX xb xpr | exact SXp.of HKA.out hbX hprX xb xpr)
   clear hK K
   refine WE_put ?_
   refine WE_step 16 rfl (by kernel_rfl) (fun K hK => ?_)
   (refine step_append_rd _ rfl _ _ 28 rfl w0.heap.size 72 i0 (.agg #[.int .i64 0, .int .i64 0]) 2 16 Tryz.underlying28 hi hz0 hz1 hz2 rfl (by decide) (.slice A9 m9 c9) m9 _ rfl (own_kept2 (X := []) OWN.out (((Kept.refl [] X).drew).alloc _) (by simp)) (some ⟨X.heap.size, 0, none⟩) 1 1 [.int .i64 a, .int .i64 d] rfl (Rd.new2 _ _ _ _ _ rfl) (fun h => by cases h) (by intro u hu; simp only [List.mem_cons, List.not_mem_nil, or_false] at hu; rcases hu with rfl | rfl <;> rfl) (m9 + 1) rfl _ HAB.out.symm (by unfold maxLen; omega) (by omega) (by simp; omega) ?_; intro A8 c8 w8 hown8 hk8 hat8; have hkA : Kept (Value.slice A9 m9 c9).ownBlock.toList X w8 := (((Kept.refl _ X).drew).alloc _).next hk8 (fun y hy => Or.inl hy); have fX8 := (hkA.frozen _ n hprX xpr).trans fX; have HO8 := Lib.hid hown8; have HKA := Lib.hid hkA; have HAT := Lib.hid hat8; clear hown8 hk8 hat8)
   refine hK.out _ _ ?_ (fun hHeld => ?_)
   · (first | (with_reducible assumption) | exact SXp.of (Kept.refl _ _).drew hbX hprX xb xpr | exact SXp.of (hHeld.1.alloc _) hbX hprX xb xpr | exact SXp.of HKA.out hbX hprX xb xpr)
   clear hK K
   refine WE_put ?_
   refine WE_tk 17 ?_
   refine WE_last rfl (by kernel_rfl) (fun K hK => ?_)
   go_simp
   refine hK.out _ _ ?_
   clear hK K
   go_wp2_with fail
   go_end0
   have hl8 : (sX.pd n ++ [(a, d)]).length = m9 + 1 := by rw [List.length_append, HM9.out]; rfl
   obtain ⟨O9, G9, M9, F9, -⟩ := MX.out.set_pend (w1 := w8) (v := .slice A8 (m9 + 1) c8) (l := sX.pd n ++ [(a, d)]) hnK (by rw [HPV.out]; exact HKA.out) (by rw [hl8]; exact HO8.out) (by rw [HPV.out]; intro g hg; rcases HAT.out g hg with h1 | h1; (· exact .inl h1); (· right; rw [h1]; simp)) (by
     have h1 := MX.out.pdb n hnK
     have h2 := HUN.out n hnK
     rw [hl8, HM9.out]
     omega)
   exact ⟨O9, G9, rfl, M9.eq HEQ.out.symm, FXX.trans F9⟩
end Go.Proofs.YtooejoajojanjaaGreatDoor
namespace Go.Df.If
def upTo {α : Type} (f : St → α → St) (l : List α) (s : St) (j : Nat) : St := (l.take j).foldl f s
theorem upTo_zero {α : Type} (f : St → α → St) (l : List α) (s : St) : upTo f l s 0 = s := by simp [upTo]
theorem upTo_succ {α : Type} (f : St → α → St) (l : List α) (s : St) {j : Nat} (h : j < l.length) : upTo f l s (j + 1) = f (upTo f l s j) l[j] := by
 unfold upTo
 rw [List.take_succ_eq_append_getElem h, List.foldl_append, List.foldl_cons, List.foldl_nil]
theorem upTo_all {α : Type} (f : St → α → St) (l : List α) (s : St) : upTo f l s l.length = l.foldl f s := by simp [upTo]
theorem upTo_keep {α : Type} {f : St → α → St} {l : List α} {s : St} {Q : St → Prop} (j : Nat) (hf : ∀ x ∈ l, ∀ t, Q t → Q (f t x)) (h : Q s) : Q (upTo f l s j) :=
 fold_keep _ s (fun x hx => hf x (List.mem_of_mem_take hx)) h
end Go.Df.If
namespace Go.Proofs.YtooejoajojanjaaGreatDoor
open Go.RowKit Go.Df Go.Df.If
attribute [local go_sem ↓] Go.wp_at_zero Go.wp_at_succ
theorem Inp.edge {p : Pb} {K : Kn} {w0 w : World} (hI : Inp p K w0) (ho : Ok p) (hb : Below w0.heap.size w0 w) {k : Nat} (hk : k < p.es.length) : ∃ b2 o2 a e c : Nat, K.A2 = some ⟨b2, o2, none⟩ ∧ b2 < w0.heap.size ∧ b2 < w.heap.size ∧ (k : Int) < (K.n2 : Int) ∧ (ge p.es k).a = (a : Int) ∧ (ge p.es k).b = (e : Int) ∧ a < p.ns.length ∧ e < p.ns.length ∧
   w.cell? ⟨b2, o2 + k * 4, none⟩ = some (.int .i64 a) ∧ w.cell? ⟨b2, o2 + k * 4 + 1, none⟩ = some (.int .i64 e) ∧ w.cell? ⟨b2, o2 + k * 4 + 2, none⟩ = some (.int .i64 (ge p.es k).k) ∧ w.cell? ⟨b2, o2 + k * 4 + 3, none⟩ = some (.int .i64 (ge p.es k).c) ∧ c = 0 := by
 have hn : k < K.n2 := by rw [← hI.ed.1]; exact hk
 obtain ⟨b2, o2, e2, hl, hc⟩ := hI.ed.2 (by omega)
 obtain ⟨h1, h2, h3, h4⟩ := hc k hn
 have h5 := ho.edge hk
 obtain ⟨a, ha⟩ := Int.eq_ofNat_of_zero_le h5.1
 obtain ⟨e, he⟩ := Int.eq_ofNat_of_zero_le h5.2.2.1
 refine ⟨b2, o2, a, e, 0, e2, hl, Nat.lt_of_lt_of_le hl hb.size, by omega, ha, he, by omega, by omega, ?_, ?_, ?_, ?_, rfl⟩
 · rw [← ha]; exact (hb.cell (p := ⟨b2, _, none⟩) hl).trans h1
 · rw [← he]; exact (hb.cell (p := ⟨b2, _, none⟩) hl).trans h2
 · exact (hb.cell (p := ⟨b2, _, none⟩) hl).trans h3
 · exact (hb.cell (p := ⟨b2, _, none⟩) hl).trans h4
theorem Inp.flow {p : Pb} {K : Kn} {w0 w : World} (hI : Inp p K w0) (ho : Ok p) (hb : Below w0.heap.size w0 w) {k : Nat} (hk : k < p.es.length) : ∃ (b3 o3 : Nat) (Ai : Option Addr) (ni ci : Nat), K.A3 = some ⟨b3, o3, none⟩ ∧ b3 < w.heap.size ∧ (k : Int) < (K.n3 : Int) ∧
   w.cell? ⟨b3, o3 + k, none⟩ = some (.slice Ai ni ci) ∧ ni ≤ ci ∧ Prs w0 Ai ni (gf p.fl k) ∧ 0 < ni ∧ ni ≤ 8192 := by
 have hkf : k < p.fl.length := by rw [ho.len]; exact hk
 have hn : k < K.n3 := by rw [← hI.fl.1]; exact hkf
 obtain ⟨b3, o3, e3, hl, hc⟩ := hI.fl.2 (by omega)
 obtain ⟨Ai, ni, ci, h1, h2, h3⟩ := hc k hn
 have h4 := ho.fl k hkf
 refine ⟨b3, o3, Ai, ni, ci, e3, Nat.lt_of_lt_of_le hl hb.size, by omega, (hb.cell (p := ⟨b3, _, none⟩) hl).trans h1, h2, h3, ?_, ?_⟩
 · have := h3.1; omega
 · have := h3.1; omega
theorem prs_at {p : Pb} {w0 w : World} (ho : Ok p) (hb : Below w0.heap.size w0 w) {A : Option Addr} {m k d : Nat} (h : Prs w0 A m (froms (gf p.fl k) d)) (hk : k < p.es.length) {j : Nat} (hj : j < m) : ∃ b5 o5 o : Nat, A = some ⟨b5, o5, none⟩ ∧ b5 < w.heap.size ∧ ∃ h' : j < (froms (gf p.fl k) d).length,
   w.cell? ⟨b5, o5 + j * 2, none⟩ = some (.int .i64 d) ∧ w.cell? ⟨b5, o5 + j * 2 + 1, none⟩ = some (.int .i64 o) ∧ (froms (gf p.fl k) d)[j].o = (o : Int) ∧ o < p.F.toNat := by
 obtain ⟨b5, o5, e, hl, hc⟩ := h.2 (by omega)
 have hj' : j < (froms (gf p.fl k) d).length := by rw [h.1]; exact hj
 obtain ⟨h1, h2⟩ := hc j hj
 have hm := mem_froms.1 (List.getElem_mem hj')
 have hp := ho.pair (by rw [ho.len]; exact hk) hm.1
 obtain ⟨o, ho'⟩ := Int.eq_ofNat_of_zero_le hp.2.2.1
 rw [gp_lt hj', hm.2] at h1
 rw [gp_lt hj', ho'] at h2
 exact ⟨b5, o5, o, e, Nat.lt_of_lt_of_le hl hb.size, hj', (hb.cell (p := ⟨b5, _, none⟩) hl).trans h1, (hb.cell (p := ⟨b5, _, none⟩) hl).trans h2, ho', by omega⟩
theorem fl_mono {p : Pb} (ho : Ok p) {k : Nat} (hk : k < p.es.length) : ∀ i j, i ≤ j → j < (gf p.fl k).length → (gp (gf p.fl k) i).i ≤ (gp (gf p.fl k) j).i :=
 fun _ _ hij hj => pr_mono (ho.fl k (by rw [ho.len]; exact hk)).2.1 hij hj
theorem spread1_wf {p : Pb} (ho : Ok p) {k a d : Nat} (hk : k < p.es.length) (ha : a < p.F.toNat) : ∀ q ∈ froms (gf p.fl k) d, ∀ t, Wf p t → Wf p (t.add (ge p.es k).b.toNat a q.o.toNat) := fun q hq t ht => by
 have h1 := ho.pair (by rw [ho.len]; exact hk) (mem_froms.1 hq).1
 have h2 := ho.edge hk
 exact ht.add (by omega) ha (by omega)
set_option maxRecDepth 100000 in
set_option maxHeartbeats 40000000 in
theorem spread_any {p : Pb} {K : Kn} {w0 : World} {b : Nat} {O : Nat → Prop} {G : Gh} {s : St} (w : World) (k a d : Nat) (hI : Inp p K w0) (ho : Ok p) (hw : Wf p s) (hm : Mem p K w0 b O G w s) (hk : k < p.es.length) (ha : a < p.F.toNat) :
   Calls Tryz.prog 134 #[.pointer (some ⟨b, 0, none⟩), .int .i64 k, .int .i64 a, .int .i64 d] w (GetMem p K w0 b O w (spread p k a d s)) := by
 have HM := Lib.hid hm
 have HW := Lib.hid hw
 have HI := Lib.hid hI
 have HO := Lib.hid ho
 have B0 := hm.box
 unfold sbox at B0
 have ⟨LB, CB, FB⟩ := B0
 obtain ⟨b3, o3, Ai, ni, ci, e3, hl3, hk3, r3, hci, hprs, hni, hni2⟩ := hI.flow ho hm.low hk
 have HPR := Lib.hid hprs
 have hLE : Hid (Below w0.heap.size w0 w) := Lib.hid hm.low
 clear hm hw hI ho hprs
 go_enter Tryz.func134, Tryz.ntmps134
 go_upto_region 1 with (go_at_call 169; refine (from_any Ai ni ci d (gf p.fl k) w0 _ HPR.out hLE.out hni hni2 hci (fl_mono HO.out hk)).mono ?_; rintro e w1 ⟨A', m, c', rfl, hp1, hb1⟩)
 have HP1 := Lib.hid hp1
 have hml : m = (froms (gf p.fl k) d).length := hp1.1.symm
 have HML := Lib.hid hml
 have M1 := Lib.hid (HM.out.call hb1)
 have F1 : Hid (Fx O O w w1) := Lib.hid (.same ((Kept.refl _ _).call hb1))
 have hm8 : m ≤ 8192 := by
   have h1 := List.length_filter_le (fun q => q.i == (d : Int)) (gf p.fl k)
   have h2 := HPR.out.1
   have h3 : (froms (gf p.fl k) d).length ≤ (gf p.fl k).length := h1
   omega
 clear hp1 hml r3 e3 hl3 hk3 CB FB B0 LB
 go_wp2_with fail
 go_loopw [21] (fun s21 wr => ∃ (j : Nat) (O' : Nat → Prop) (G' : Gh), j ≤ m ∧ s21 = .int .i64 j ∧ Hid (Mem p K w0 b O' G' wr (upTo (fun s q => s.add (ge p.es k).b.toNat a q.o.toNat) (froms (gf p.fl k) d) s j)) ∧ Hid (Fx O O' w wr)) (fun s21 _ => m - (intOf s21).toNat)
 case atStart => exact ⟨0, O, G, Nat.zero_le _, rfl, by rw [upTo_zero]; exact M1, F1⟩
 case round =>
 clear M1 F1
 obtain ⟨j, O', G', hj, rfl, MR, FR⟩ := hrel
 by_cases hlt : j < m
 case neg =>
   obtain rfl : j = m := by omega
   go_wp2_with fail
   go_end0
   exact ⟨O', G', rfl, MR.out.eq (by rw [HML.out, upTo_all]; rfl), FR.out⟩
 have BR := MR.out.box
 unfold sbox at BR
 have ⟨LR, CR, FRb⟩ := BR
 obtain ⟨b5, o5, o, rfl, hl5, hj', r5, r5b, hqo, hoF⟩ := prs_at HO.out MR.out.low HP1.out hk hlt
 have hj1 : (j : Int) < (m : Int) := by omega
 have HQO := Lib.hid hqo
 clear hqo
 go_upto_region 3 with fail
 refine wp_named (fun V => ∃ g, wr.heap.size = g ∧ Blk V g [.int .i64 d, .int .i64 o] ∧ Kept [] wr V) ⟨_, rfl, Blk.new _ _ _ _ rfl, (Kept.refl _ _).alloc _⟩ ?_
 rintro V ⟨g, eg, Bg, hkV⟩
 rw [eg]
 have ⟨Lg, Cg, Fg⟩ := Bg
 have MV := Lib.hid (MR.out.call hkV.toBelow)
 have FV := Lib.hid (FR.out.trans (.same hkV))
 have BV := MV.out.box
 unfold sbox at BV
 have ⟨LV, CV, FVb⟩ := BV
 obtain ⟨b2, o2, ea, eb, -, e2, -, hl2, hk2, hea, heb, hea2, heb2, r2a, r2b, -, -, -⟩ := HI.out.edge HO.out MV.out.low hk
 have HEB := Lib.hid heb
 have HWj := Lib.hid (upTo_keep (Q := Wf p) j (spread1_wf (d := d) HO.out hk ha) HW.out)
 have HSU : Hid (upTo (fun s q => s.add (ge p.es k).b.toNat a q.o.toNat) (froms (gf p.fl k) d) s (j + 1) = (upTo (fun s q => s.add (ge p.es k).b.toNat a q.o.toNat) (froms (gf p.fl k) d) s j).add eb a o) := by
   show _ = _
   rw [upTo_succ _ _ _ hj', HQO.out, HEB.out, Int.toNat_natCast, Int.toNat_natCast]
 clear heb hea r5 r5b CR FRb eg r2a
 refine wp_region_E 14 (fun w' => SX0 V w') (by kernel_rfl) (by (exact kp0)) (fun hHeld => ?_)
 refine WE_tk 0 ?_
 refine WE_tk 1 ?_
 refine WE_tk 2 ?_
 refine WE_tk 3 ?_
 refine WE_tk 4 ?_
 refine WE_tk 5 ?_
 refine WE_tk 6 ?_
 refine WE_tk 7 ?_
 refine WE_tk 8 ?_
 refine WE_tk 9 ?_
 refine WE_tk 10 ?_
 refine WE_tk 11 ?_
 refine WE_tk 12 ?_
 refine WE_tk 13 ?_
 refine WE_last rfl (by kernel_rfl) (fun K hK => ?_)
 go_simp
 (go_at_call 51; refine (add_any _ eb a o HI.out HO.out HWj.out (MV.out.call ((Kept.refl [] _).drew.toBelow)) heb2 ha hoF).mono ?_; intro e w9 hG9; obtain ⟨O9, G9, rfl, M9, F9⟩ := hG9)
 (try go_wp2_with fail)
 refine hK.out _ _ ?_
 clear hK K
 go_wp2_with fail
 exact ⟨⟨j + 1, O9, G9, by omega, by go_num, Lib.hid (M9.eq HSU.out.symm), Lib.hid (FV.out.trans ((Fx.same ((Kept.refl [] _).drew)).trans F9))⟩, by simp [intOf]; omega⟩
end Go.Proofs.YtooejoajojanjaaGreatDoor
