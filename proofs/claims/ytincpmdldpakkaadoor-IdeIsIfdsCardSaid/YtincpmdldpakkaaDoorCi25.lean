/- Texts: Ab Ak Cf Aq Cy Cz Al Am. -/
import Derived.Test.YtincpmdldpakkaaDoorCi09
import Derived.Test.YtincpmdldpakkaaDoorCi24
import Derived.Test.YtincpmdldpakkaaDoorCi11
import Derived.Test.YtincpmdldpakkaaDoorCi23
import Derived.Test.YtincpmdldpakkaaDoorCi15
import Derived.Test.YtincpmdldpakkaaDoorCi21
import Derived.Test.YtincpmdldpakkaaDoorCi08
namespace Go.Df
open Go.RowKit
namespace Iv
open Sp
structure Vw (N f : Nat) (w : World) (go : Nat) (rw rc : Nat → Nat) (V : Nat → Nat → U) : Prop where
 glt : go < w.heap.size
 row : ∀ n, n < N → w.cell? ⟨go, n, none⟩ = some (.slice (some ⟨rw n, 0, none⟩) f (rc n))
 cell : ∀ n a, n < N → a < f → w.cell? ⟨rw n, a * 2, none⟩ = some (.int .i64 (V n a).1.k) ∧ w.cell? ⟨rw n, a * 2 + 1, none⟩ = some (.int .i64 (V n a).1.n)
 fr : ∀ n i, n < N → w.frozen? ⟨rw n, i, none⟩ = false
 lt : ∀ n, n < N → rw n < w.heap.size
 inj : ∀ n m, n < N → m < N → rw n = rw m → n = m
 ne : ∀ n, n < N → rw n ≠ go
section
variable {N f : Nat} {w w' : World} {go : Nat} {rw rc : Nat → Nat} {V : Nat → Nat → U}
theorem Vw.kept (h : Vw N f w go rw rc V) {X : List Nat} (hk : Kept X w w') (hg : go ∉ X) (hr : ∀ n, n < N → rw n ∉ X) : Vw N f w' go rw rc V :=
 ⟨Nat.lt_of_lt_of_le h.glt hk.size, fun n hn => (hk.cell go n h.glt hg).trans (h.row n hn), fun n a hn ha => ⟨(hk.cell _ _ (h.lt n hn) (hr n hn)).trans (h.cell n a hn ha).1, (hk.cell _ _ (h.lt n hn) (hr n hn)).trans (h.cell n a hn ha).2⟩,
   fun n i hn => (hk.frozen _ _ (h.lt n hn) (hr n hn)).trans (h.fr n i hn), fun n hn => Nat.lt_of_lt_of_le (h.lt n hn) hk.size, h.inj, h.ne⟩
theorem Vw.keep (h : Vw N f w go rw rc V) (hk : Kept [] w w') : Vw N f w' go rw rc V := h.kept hk (by simp) (by simp)
theorem Vw.put (h : Vw N f w go rw rc V) {n a : Nat} (hn : n < N) (ha : a < f) (y : U) {i : Nat} (hi : i = a * 2) : Vw N f ((w.setCell ⟨rw n, i, none⟩ (.int .i64 y.1.k)).setCell ⟨rw n, i + 1, none⟩ (.int .i64 y.1.n)) go rw rc (vput V n a y) := by
 subst hi
 have hne := h.ne n hn
 have hc := h.cell n a hn ha
 refine ⟨by simpa [World.setCell] using h.glt, fun m hm => ?_, fun m a' hm ha' => ?_, fun m i hm => by simpa using h.fr m i hm, fun m hm => by simpa [World.setCell] using h.lt m hm, h.inj, h.ne⟩
 · rw [set_other (.inl hne), set_other (.inl hne)]
   exact h.row m hm
 · by_cases e : m = n ∧ a' = a
   · obtain ⟨rfl, rfl⟩ := e
     rw [vput_at]
     have s1 := set_same (v := .int .i64 y.1.k) hc.1
     have c2 : (w.setCell ⟨rw m, a' * 2, none⟩ (.int .i64 y.1.k)).cell? ⟨rw m, a' * 2 + 1, none⟩ = some (.int .i64 (V m a').1.n) := (set_other (.inr (by omega))).trans hc.2
     have s2 := set_same (v := .int .i64 y.1.n) c2
     exact ⟨by rw [set_other (.inr (by omega))]; exact s1, s2⟩
   · have e9 : vput V n a y m a' = V m a' := if_neg e
     rw [e9]
     have hdis : rw n ≠ rw m ∨ a ≠ a' := by
       by_cases e1 : m = n
       · right; intro e2; exact e ⟨e1, e2.symm⟩
       · left; exact fun e2 => e1 (h.inj n m hn hm e2).symm
     have key : ∀ (w : World) (v : Value) (x z : Nat), x < 2 → z < 2 → (w.setCell ⟨rw n, a * 2 + x, none⟩ v).cell? ⟨rw m, a' * 2 + z, none⟩ = w.cell? ⟨rw m, a' * 2 + z, none⟩ := fun w v x z hx hz => set_other (hdis.imp id (fun h9 => by omega))
     have hcm := h.cell m a' hm ha'
     refine ⟨?_, ?_⟩
     · exact ((key _ (.int .i64 y.1.n) 1 0 (by omega) (by omega)).trans (key w (.int .i64 y.1.k) 0 0 (by omega) (by omega))).trans hcm.1
     · exact ((key _ (.int .i64 y.1.n) 1 1 (by omega) (by omega)).trans (key w (.int .i64 y.1.k) 0 1 (by omega) (by omega))).trans hcm.2
end
end Iv
end Go.Df
namespace Go.Df
open Go.RowKit
def EmV (z : Value) (base : Nat) (tb : TypeId) (m : Nat) (bs : Nat → Nat) (n : Nat) (w : World) : Prop :=
 (∀ x, x < n → base ≤ bs x ∧ Tag w (bs x) tb ∧ ∀ i, i < m → w.cell? ⟨bs x, i, none⟩ = some z) ∧ ∀ x y, x < n → y < n → bs x = bs y → x = y
theorem EmV.kept {z : Value} {base : Nat} {tb : TypeId} {m n : Nat} {bs : Nat → Nat} {X : List Nat} {w w' : World} (h : EmV z base tb m bs n w) (hk : Kept X w w') (hX : ∀ x, x < n → bs x ∉ X) : EmV z base tb m bs n w' :=
 ⟨fun x hx => by
   obtain ⟨h1, h2, h3⟩ := h.1 x hx
   exact ⟨h1, h2.same (hk.block _ h2.lt (hX x hx)), fun i hi => (hk.cell _ _ h2.lt (hX x hx)).trans (h3 i hi)⟩, h.2⟩
def updN (f : Nat → Nat) (n x : Nat) : Nat → Nat := fun i => if i = n then x else f i
theorem EmV.snoc {z : Value} {base : Nat} {tb : TypeId} {m n g : Nat} {bs : Nat → Nat} {w : World} (h : EmV z base tb m bs n w) (hg : base ≤ g) (ht : Tag w g tb) (hc : ∀ i, i < m → w.cell? ⟨g, i, none⟩ = some z) (hn : ∀ x, x < n → bs x ≠ g) : EmV z base tb m (updN bs n g) (n + 1) w := by
 refine ⟨fun x hx => ?_, fun x y hx hy e => ?_⟩
 · unfold updN
   by_cases e : x = n
   · rw [if_pos e]; exact ⟨hg, ht, hc⟩
   · rw [if_neg e]; exact h.1 x (by omega)
 · unfold updN at e
   by_cases e1 : x = n
   · by_cases e2 : y = n
     · omega
     · rw [if_pos e1, if_neg e2] at e; exact absurd e.symm (hn y (by omega))
   · by_cases e2 : y = n
     · rw [if_neg e1, if_pos e2] at e; exact absurd e (hn x (by omega))
     · rw [if_neg e1, if_neg e2] at e; exact h.2 x y (by omega) (by omega) e
theorem rows_snoc (bs rc : Nat → Nat) (m n g c : Nat) : ((List.range n).map fun x => Value.slice (some ⟨bs x, 0, none⟩) m (rc x)) ++ [Value.slice (some ⟨g, 0, none⟩) m c] = (List.range (n + 1)).map fun x => Value.slice (some ⟨updN bs n g x, 0, none⟩) m (updN rc n c x) := by
 rw [List.range_succ, List.map_append]
 congr 1
 · refine List.map_congr_left fun x hx => ?_
   have : x ≠ n := by have := List.mem_range.1 hx; omega
   simp [updN, this]
 · simp [updN]
def truthOf : Value → Nat | .bool true => 1 | _ => 0
namespace Iv
open Sp
structure EdgeR (p : Vb) (T : Nat → Nat → Nat → D) (f k : Nat) : Prop where
 flow : (ge p.es k).k = 1 ∨ (ge p.es k).k = 5 → ∀ q ∈ gl p.fl k, ∀ a, a < f → le (T (ge p.es k).b.toNat a q.o.toNat) (comp (T (ge p.es k).a.toNat a q.i.toNat) (xd q))
 call : (ge p.es k).k = 2 → ∀ q ∈ gl p.fl k, ∀ a, a < f → T (ge p.es k).a.toNat a q.i.toNat ≠ top → xd q ≠ top → le (T (ge p.es k).b.toNat q.o.toNat q.o.toNat) shift
 ret : (ge p.es k).k = 3 ∨ (ge p.es k).k = 4 → ∀ c, c < p.es.length → RC p k c → ∀ q ∈ gl p.fl c, ∀ u ∈ gl p.fl k, RQ p T k c f q u
end Iv
end Go.Df
namespace Go.Df
open Go.RowKit
namespace Iv
open Sp
def St.low (s : St) (n a : Nat) (v : U) : St :=
 if meetV (s.V n a) v = s.V n a then s else ((s.setV n a (meetV (s.V n a) v)).setQ (if s.pd n = [] then s.q ++ [n] else s.q)).setP n (s.pd n ++ [(a, a)])
structure GwV (s t : St) : Prop where
 le : ∀ n a, leV (t.V n a) (s.V n a)
 new : ∀ n a, t.V n a ≠ s.V n a → (a, a) ∈ t.pd n
 pd : ∀ n x, x ∈ s.pd n → x ∈ t.pd n
 T : t.T = s.T
 ls : t.ls = s.ls
theorem GwV.refl (s : St) : GwV s s := ⟨fun _ _ => leV_refl _, fun _ _ h => absurd rfl h, fun _ _ h => h, rfl, rfl⟩
theorem GwV.trans {s t u : St} (h : GwV s t) (g : GwV t u) : GwV s u := by
 refine ⟨fun n a => leV_trans (g.le n a) (h.le n a), fun n a hn => ?_, fun n x hx => g.pd n x (h.pd n x hx), g.T.trans h.T, g.ls.trans h.ls⟩
 by_cases e : u.V n a = t.V n a
 · rw [e] at hn; exact g.pd n _ (h.new n a hn)
 · exact g.new n a e
section
variable {p : Vb} {s t : St} {n a : Nat} {v : U}
theorem low_at (s : St) (n a : Nat) (v : U) : (s.low n a v).V n a = meetV (s.V n a) v := by
 unfold St.low
 split
 · rename_i h; exact h.symm
 · show (if n = n ∧ a = a then _ else _) = _
   rw [if_pos ⟨rfl, rfl⟩]
theorem low_ne (s : St) (v : U) {n' a' : Nat} (h : ¬ (n' = n ∧ a' = a)) : (s.low n a v).V n' a' = s.V n' a' := by
 unfold St.low
 split
 · rfl
 · exact if_neg h
theorem low_le (s : St) (n a : Nat) (v : U) : leV ((s.low n a v).V n a) v := by rw [low_at]; exact meetV_le_right _ _
theorem low_gw (s : St) (n a : Nat) (v : U) : GwV s (s.low n a v) := by
 refine ⟨fun n' a' => ?_, fun n' a' hne => ?_, fun n' y hy => ?_, ?_, ?_⟩
 · by_cases e : n' = n ∧ a' = a
   · obtain ⟨rfl, rfl⟩ := e; rw [low_at]; exact meetV_le_left _ _
   · rw [low_ne s v e]; exact leV_refl _
 · have e : n' = n ∧ a' = a := Classical.byContradiction fun e => hne (low_ne s v e)
   obtain ⟨rfl, rfl⟩ := e
   have h0 : ¬ meetV (s.V n' a') v = s.V n' a' := fun h => hne (by rw [low_at]; exact h)
   unfold St.low
   rw [if_neg h0]
   show (a', a') ∈ if n' = n' then _ else _
   rw [if_pos rfl]
   exact List.mem_append.2 (.inr (by simp))
 · unfold St.low
   split
   · exact hy
   · show y ∈ if n' = n then _ else _
     split
     · rename_i e; subst e; exact List.mem_append.2 (.inl hy)
     · exact hy
 · unfold St.low; split <;> rfl
 · unfold St.low; split <;> rfl
theorem low_mu (hn : n < p.ns.length) (ha : a < p.F.toNat) (h : meetV (s.V n a) v ≠ s.V n a) : mu p (s.low n a v) + 1 ≤ mu p s := by
 have h1 : muV p (s.low n a v).V < muV p s.V := by
   refine sum_lt (y := (n, a)) ?_ _ (fun y _ => ?_) (mem_duo.2 ⟨hn, ha⟩)
   · show stpV ((s.low n a v).V n a) < stpV (s.V n a)
     rw [low_at]
     exact stpV_meet _ _ h
   · show stpV ((s.low n a v).V y.1 y.2) ≤ stpV (s.V y.1 y.2)
     by_cases e : y.1 = n ∧ y.2 = a
     · rw [e.1, e.2, low_at]; exact Nat.le_of_lt (stpV_meet _ _ h)
     · rw [low_ne s v e]; exact Nat.le_refl _
 have h2 : (s.low n a v).T = s.T := (low_gw s n a v).T
 unfold mu
 rw [h2]
 omega
theorem low_eq (h : meetV (s.V n a) v ≠ s.V n a) : s.low n a v = ((s.setV n a (meetV (s.V n a) v)).setQ (if s.pd n = [] then s.q ++ [n] else s.q)).setP n (s.pd n ++ [(a, a)]) := by unfold St.low; rw [if_neg h]
theorem low_id (h : meetV (s.V n a) v = s.V n a) : s.low n a v = s := by unfold St.low; rw [if_pos h]
theorem low_mea (hn : n < p.ns.length) (ha : a < p.F.toNat) : mea p (s.low n a v) ≤ mea p s := by
 by_cases h : meetV (s.V n a) v = s.V n a
 · rw [low_id h]; exact Nat.le_refl _
 · have h1 := low_mu (p := p) hn ha h
   have h2 : (s.low n a v).q.length ≤ s.q.length + 1 := by
     rw [low_eq h]
     show (if s.pd n = [] then s.q ++ [n] else s.q).length ≤ _
     split
     · simp
     · omega
   unfold mea
   omega
theorem low_wf (hw : Wf p s) (hn : n < p.ns.length) (ha : a < p.F.toNat) : Wf p (s.low n a v) := by
 by_cases h : meetV (s.V n a) v = s.V n a
 · rw [low_id h]; exact hw
 have hmu := low_mu (p := p) hn ha h
 have e := low_eq h
 refine ⟨fun n' a' d' h9 => ?_, fun n' a' d' => ?_, fun n' a' d' => ?_, fun i n' a' hi => ?_, ?_, fun n' => ?_, fun n' y hy => ?_, fun i => ?_⟩
 · rw [(low_gw s n a v).T] at h9; exact hw.rng _ _ _ h9
 · rw [(low_gw s n a v).T, (low_gw s n a v).ls]; exact hw.l1 _ _ _
 · rw [(low_gw s n a v).T, (low_gw s n a v).ls]; exact hw.l2 _ _ _
 · rw [(low_gw s n a v).ls]; exact hw.ln i n' a' hi
 · rw [e]
   show (if s.pd n = [] then s.q ++ [n] else s.q).Nodup
   split
   · rename_i e2
     rw [List.nodup_append]
     refine ⟨hw.qn, by simp, fun y hy z hz => ?_⟩
     obtain rfl := List.mem_singleton.1 hz
     rintro rfl
     exact (hw.qp _).1 hy e2
   · exact hw.qn
 · rw [e]
   show n' ∈ (if s.pd n = [] then s.q ++ [n] else s.q) ↔ (if n' = n then s.pd n ++ [(a, a)] else s.pd n') ≠ []
   by_cases e1 : n' = n
   · subst e1
     rw [if_pos rfl]
     split
     · simp
     · rename_i e2; simp [(hw.qp n').2 e2]
   · rw [if_neg e1]
     split
     · rw [List.mem_append, hw.qp]; simp [e1]
     · exact hw.qp _
 · rw [e] at hy
   have hy : y ∈ (if n' = n then s.pd n ++ [(a, a)] else s.pd n') := hy
   split at hy
   · rename_i e1
     subst e1
     rcases List.mem_append.1 hy with hy | hy
     · exact hw.pr _ _ hy
     · obtain rfl := List.mem_singleton.1 hy
       exact ⟨hn, ha, ha⟩
   · exact hw.pr _ _ hy
 · have h1 := hw.kb i
   have h2 : (s.low n a v).k i ≤ s.k i + 1 := by
     rw [e]
     show bump (bump s.k 3) 4 i ≤ _
     unfold bump
     by_cases e4 : i = 4
     · subst e4; simp
     · rw [if_neg e4]
       split <;> omega
   omega
end
structure GoodV (p : Vb) (T : Nat → Nat → Nat → D) (s : St) : Prop where
 wf : Wf p s
 eT : s.T = T
 snd : VSnd p T s.V
theorem GoodV.low {p : Vb} {T : Nat → Nat → Nat → D} {s : St} (h : GoodV p T s) {n a : Nat} {v : U} (hn : n < p.ns.length) (ha : a < p.F.toNat) (hv : ∀ Y, VClo p T Y → leV (Y n a) v) : GoodV p T (s.low n a v) := by
 refine ⟨low_wf h.wf hn ha, (low_gw s n a v).T.trans h.eT, fun Y hY n' a' => ?_⟩
 by_cases e : n' = n ∧ a' = a
 · obtain ⟨rfl, rfl⟩ := e
   rw [low_at]
   exact le_meetV (h.snd Y hY _ _) (hv Y hY)
 · rw [low_ne s v e]
   exact h.snd Y hY _ _
structure ExV (p : Vb) (T : Nat → Nat → Nat → D) (s t : St) : Prop where
 gw : GwV s t
 good : GoodV p T t
 mea : mea p t ≤ mea p s
theorem ExV.refl {p : Vb} {T : Nat → Nat → Nat → D} {s : St} (h : GoodV p T s) : ExV p T s s := ⟨GwV.refl s, h, Nat.le_refl _⟩
theorem ExV.trans {p : Vb} {T : Nat → Nat → Nat → D} {s t u : St} (h : ExV p T s t) (k : ExV p T t u) : ExV p T s u := ⟨h.gw.trans k.gw, k.good, Nat.le_trans k.mea h.mea⟩
theorem ExV.low {p : Vb} {T : Nat → Nat → Nat → D} {s : St} (h : GoodV p T s) {n a : Nat} {v : U} (hn : n < p.ns.length) (ha : a < p.F.toNat) (hv : ∀ Y, VClo p T Y → leV (Y n a) v) : ExV p T s (s.low n a v) := ⟨low_gw s n a v, h.low hn ha hv, low_mea hn ha⟩
structure InvV (p : Vb) (T : Nat → Nat → Nat → D) (n0 : Nat) (rest : List (Nat × Nat)) (s : St) : Prop where
 good : GoodV p T s
 rst : ∀ x ∈ rest, n0 < p.ns.length ∧ x.1 < p.F.toNat
 main : leV (s.V p.mn.toNat 0) botV
 call : ∀ k, k < p.es.length → (ge p.es k).k = 2 → ∀ q ∈ gl p.fl k, ∀ a, (∃ c, Pen n0 rest s (If.stOf p.ns (ge p.es k).a.toNat) (a, c)) ∨ leV (s.V (ge p.es k).b.toNat q.o.toNat) (app (comp (T (ge p.es k).a.toNat a q.i.toNat) (xd q)) (s.V (If.stOf p.ns (ge p.es k).a.toNat) a))
def DidV (p : Vb) (T : Nat → Nat → Nat → D) (n a : Nat) (v : U) (t : St) : Prop := ∀ k, k < p.es.length → (ge p.es k).k = 2 → If.stOf p.ns (ge p.es k).a.toNat = n → ∀ q ∈ gl p.fl k, leV (t.V (ge p.es k).b.toNat q.o.toNat) (app (comp (T (ge p.es k).a.toNat a q.i.toNat) (xd q)) v)
section
variable {p : Vb} {T : Nat → Nat → Nat → D} {s t : St} {n0 : Nat} {rest : List (Nat × Nat)}
theorem InvV.step {n a c : Nat} (h : InvV p T n ((a, c) :: rest) s) (g : GwV s t) (hg : GoodV p T t) (hd : DidV p T n a (s.V n a) t) : InvV p T n rest t := by
 have keep : ∀ {m : Nat} {x : Nat × Nat}, x ∈ s.pd m → Pen n rest t m x := fun hx => .inl (g.pd _ _ hx)
 refine ⟨hg, fun x hx => h.rst x (List.mem_cons_of_mem _ hx), leV_trans (g.le _ _) h.main, fun k hk h2 q hq a' => ?_⟩
 by_cases e : t.V (If.stOf p.ns (ge p.es k).a.toNat) a' = s.V (If.stOf p.ns (ge p.es k).a.toNat) a'
 · rcases h.call k hk h2 q hq a' with ⟨c', hp⟩ | hp
   · rcases hp with hp | ⟨e1, hp⟩
     · exact .inl ⟨c', keep hp⟩
     · rcases List.mem_cons.1 hp with hp | hp
       · injection hp with e2 e3
         right
         rw [e, e2, e1]
         have h9 := hd k hk h2 e1 q hq
         exact h9
       · exact .inl ⟨c', .inr ⟨e1, hp⟩⟩
   · right
     rw [e]
     exact leV_trans (g.le _ _) hp
 · exact .inl ⟨a', .inl (g.new _ _ e)⟩
theorem InvV.pop (h : InvV p T n0 [] s) {n : Nat} {r : List Nat} (hq : s.q = n :: r) : InvV p T n (s.pd n) (popS s n r) := by
 refine ⟨⟨h.good.wf.pop hq, h.good.eT, h.good.snd⟩, fun x hx => ⟨(h.good.wf.pr n x hx).1, (h.good.wf.pr n x hx).2.1⟩, h.main, fun k hk h2 q hq' a => ?_⟩
 rcases h.call k hk h2 q hq' a with ⟨c, hp⟩ | hp
 · left
   refine ⟨c, ?_⟩
   rcases hp with hp | ⟨_, hp⟩
   · by_cases e : If.stOf p.ns (ge p.es k).a.toNat = n
     · exact .inr ⟨e, by rw [← e]; exact hp⟩
     · refine .inl ?_
       show _ ∈ if _ = n then [] else s.pd _
       rw [if_neg e]
       exact hp
   · cases hp
 · exact .inr hp
theorem InvV.rest0 {n : Nat} (h : InvV p T n [] s) (m : Nat) : InvV p T m [] s :=
 ⟨h.good, (fun x hx => by cases hx), h.main, fun k hk h2 q hq a => (h.call k hk h2 q hq a).imp (fun ⟨c, hp⟩ => ⟨c, hp.imp id (fun h9 => by cases h9.2)⟩) id⟩
theorem InvV.done (h : InvV p T n0 [] s) (hq : s.q = []) : VClo p T s.V := by
 have no : ∀ {m : Nat} {x : Nat × Nat}, ¬ Pen n0 [] s m x := fun {m x} hp => by
   rcases hp with hp | ⟨_, hp⟩
   · have h1 : s.pd m ≠ [] := fun e => by rw [e] at hp; cases hp
     have h2 := (h.good.wf.qp m).2 h1
     rw [hq] at h2
     cases h2
   · cases hp
 exact ⟨h.main, fun k hk h2 q hq' a => (h.call k hk h2 q hq' a).resolve_left (fun ⟨_, hp⟩ => no hp)⟩
theorem initV (hw : Wf p s) (hT : s.T = T) (hV : s.V = fun _ _ => topV) (hn : p.mn.toNat < p.ns.length) (hF : 0 < p.F.toNat) : InvV p T 0 [] (s.low p.mn.toNat 0 botV) := by
 have g0 : GoodV p T s := ⟨hw, hT, fun Y _ n a => by rw [hV]; exact leV_top _⟩
 refine ⟨g0.low hn hF (fun Y hY => hY.main), (fun x hx => by cases hx), low_le _ _ _ _, fun k hk h2 q hq a => ?_⟩
 by_cases e : (s.low p.mn.toNat 0 botV).V (If.stOf p.ns (ge p.es k).a.toNat) a = s.V (If.stOf p.ns (ge p.es k).a.toNat) a
 · right
   rw [e, hV, app_topV]
   exact leV_top _
 · exact .inl ⟨a, .inl ((low_gw s _ _ _).new _ _ e)⟩
end
end Iv
end Go.Df
namespace Go.Df
open Go.RowKit
theorem made_two (v : Value) (n : Nat) : madeCells #[v, v] n = (List.replicate n v).toArray := by
 apply Array.ext_getElem?
 intro j
 rcases Nat.lt_or_ge j n with h | h
 · have h2 : j % 2 = 0 ∨ j % 2 = 1 := by omega
   rcases h2 with h2 | h2 <;> simp [madeCells, h, h2]
 · simp [madeCells, h]
theorem run_make2 {P : Program} {t e : TypeId} {i : TypeInfo} {z v : Value} {bytes : Nat} (ht : P.underlying t = some (.slice e)) (hi : P.info? e = some i) (hz : i.zero = some z) (hsize : i.size = 2) (hby : i.bytes = bytes) (hzc : z.cells = #[v, v]) (n : Nat) (hbytes : bytes * n ≤ 281474976710656) (h63 : n ≤ 9223372036854775807) (M : Array Value) (hM : (List.replicate (n * 2) v).toArray = M) (w : World) :
   (Instr.makeSlice t (.int .i64 (n : Int)) (.int .i64 (n : Int))).run P w = .ok (.slice (some ⟨w.heap.size, 0, none⟩) n n) (w.alloc (.cells M e)) := by
 subst hby
 have hrun := run_make (P := P) w t e i z ht hi hz .i64 .i64 (n : Int) (n : Int) (by omega) (Int.le_refl _) (by rw [← Int.natCast_mul]; omega) (by omega)
 simp only [Int.toNat_natCast, hsize, hzc, made_two, hM] at hrun
 exact hrun
namespace Iv
open Sp
def Vr (w : World) (g f : Nat) (v : Nat → U) : Prop := g < w.heap.size ∧ (∀ a, a < f → w.cell? ⟨g, a * 2, none⟩ = some (.int .i64 (v a).1.k) ∧ w.cell? ⟨g, a * 2 + 1, none⟩ = some (.int .i64 (v a).1.n)) ∧ ∀ i, w.frozen? ⟨g, i, none⟩ = false
theorem Vr.kept {w w' : World} {g f : Nat} {v : Nat → U} {X : List Nat} (h : Vr w g f v) (hk : Kept X w w') (hg : g ∉ X) : Vr w' g f v :=
 ⟨Nat.lt_of_lt_of_le h.1 hk.size, fun a ha => ⟨(hk.cell g _ h.1 hg).trans (h.2.1 a ha).1, (hk.cell g _ h.1 hg).trans (h.2.1 a ha).2⟩, fun i => (hk.frozen g i h.1 hg).trans (h.2.2 i)⟩
theorem Vr.put {w : World} {g f : Nat} {v : Nat → U} (h : Vr w g f v) {d : Nat} (hd : d < f) (y : U) {i : Nat} (hi : i = d * 2) :
   Vr ((w.setCell ⟨g, i, none⟩ (.int .i64 y.1.k)).setCell ⟨g, i + 1, none⟩ (.int .i64 y.1.n)) g f (fun a => if a = d then y else v a) := by
 subst hi
 have hc := h.2.1 d hd
 refine ⟨by simpa [World.setCell] using h.1, fun a ha => ?_, fun i => by simpa using h.2.2 i⟩
 by_cases e : a = d
 · subst e
   dsimp only
   rw [if_pos rfl]
   have s1 := set_same (v := .int .i64 y.1.k) hc.1
   have c2 : (w.setCell ⟨g, a * 2, none⟩ (.int .i64 y.1.k)).cell? ⟨g, a * 2 + 1, none⟩ = some (.int .i64 (v a).1.n) := (set_other (.inr (by omega))).trans hc.2
   have s2 := set_same (v := .int .i64 y.1.n) c2
   exact ⟨by rw [set_other (.inr (by omega))]; exact s1, s2⟩
 · dsimp only
   rw [if_neg e]
   have key : ∀ (w : World) (v : Value) (x z : Nat), x < 2 → z < 2 → (w.setCell ⟨g, d * 2 + x, none⟩ v).cell? ⟨g, a * 2 + z, none⟩ = w.cell? ⟨g, a * 2 + z, none⟩ := fun w v x z hx hz => set_other (.inr (by omega))
   have hca := h.2.1 a ha
   exact ⟨((key _ (.int .i64 y.1.n) 1 0 (by omega) (by omega)).trans (key w (.int .i64 y.1.k) 0 0 (by omega) (by omega))).trans hca.1,
     ((key _ (.int .i64 y.1.n) 1 1 (by omega) (by omega)).trans (key w (.int .i64 y.1.k) 0 1 (by omega) (by omega))).trans hca.2⟩
theorem Vr.made {w : World} {g f : Nat} {M : Array Value} {t : TypeId} (h : w.heap[g]? = some (.cells M t (0, 0))) (hM : (List.replicate (f * 2) (Value.int .i64 0)).toArray = M) : Vr w g f (fun _ => topV) := by
 refine ⟨(Array.getElem?_eq_some_iff.1 h).1, fun a ha => ⟨?_, ?_⟩, fun i => by simp [World.frozen?, h]⟩
 · have h9 := rep_at (v := Value.int .i64 0) (n := f * 2) (i := a * 2) (by omega)
   rw [hM] at h9
   show _ = some (Value.int .i64 0)
   simpa [World.cell?, h] using h9
 · have h9 := rep_at (v := Value.int .i64 0) (n := f * 2) (i := a * 2 + 1) (by omega)
   rw [hM] at h9
   show _ = some (Value.int .i64 0)
   simpa [World.cell?, h] using h9
structure Vo (N f i base : Nat) (w : World) (go : Nat) (rw : Nat → Nat) (S : Nat → Nat → U) : Prop where
 glt : go < w.heap.size
 gb : go < base
 gfr : ∀ x, w.frozen? ⟨go, x, none⟩ = false
 row : ∀ n, n < i → w.cell? ⟨go, n, none⟩ = some (.slice (some ⟨rw n, 0, none⟩) f f)
 nil : ∀ n, i ≤ n → n < N → w.cell? ⟨go, n, none⟩ = some (.slice none 0 0)
 r : ∀ n, n < i → Vr w (rw n) f (S n)
 rb : ∀ n, n < i → base ≤ rw n
 inj : ∀ n m, n < i → m < i → rw n = rw m → n = m
section
variable {N f i base : Nat} {w w' : World} {go : Nat} {rw : Nat → Nat} {S : Nat → Nat → U}
theorem Vo.kept {X : List Nat} (h : Vo N f i base w go rw S) (hk : Kept X w w') (hg : go ∉ X) (hX : ∀ n, n < i → rw n ∉ X) : Vo N f i base w' go rw S :=
 ⟨Nat.lt_of_lt_of_le h.glt hk.size, h.gb, fun x => (hk.frozen go x h.glt hg).trans (h.gfr x), fun n hn => (hk.cell go n h.glt hg).trans (h.row n hn), fun n h1 h2 => (hk.cell go n h.glt hg).trans (h.nil n h1 h2), fun n hn => (h.r n hn).kept hk (hX n hn), h.rb, h.inj⟩
theorem Vo.over {u : World} {X : List Nat} (h : Vo N f i base u go rw S) (hk : Kept X u w') (hX : ∀ x ∈ X, u.heap.size ≤ x) : Vo N f i base w' go rw S :=
 h.kept hk (fun hm => by have := hX go hm; have := h.glt; omega) (fun n hn hm => by have := hX _ hm; have := (h.r n hn).1; omega)
theorem Vo.snoc (h : Vo N f i base w go rw S) (hi : i < N) {g : Nat} (hg : base ≤ g) (hr : Vr w g f (S i)) (hfr : ∀ n, n < i → rw n ≠ g) :
   Vo N f (i + 1) base (w.setCell ⟨go, i, none⟩ (.slice (some ⟨g, 0, none⟩) f f)) go (updN rw i g) S := by
 have hgb := h.gb
 have hk : Kept [go] w (w.setCell ⟨go, i, none⟩ (.slice (some ⟨g, 0, none⟩) f f)) := (Kept.refl [go] w).set go i _ (.inl (by simp))
 have e1 : ∀ n, n < i → updN rw i g n = rw n := fun n hn => by unfold updN; rw [if_neg (by omega)]
 have e2 : updN rw i g i = g := by unfold updN; rw [if_pos rfl]
 refine ⟨by simpa [World.setCell] using h.glt, hgb, fun x => by simpa using h.gfr x, fun n hn => ?_, fun n h1 h2 => ?_, fun n hn => ?_, fun n hn => ?_, fun n m hn hm e => ?_⟩
 · by_cases e : n = i
   · subst e
     rw [e2]
     exact set_same (h.nil n (Nat.le_refl _) hi)
   · rw [e1 n (by omega), set_other (.inr (by simpa using fun e' => e e'.symm))]
     exact h.row n (by omega)
 · rw [set_other (.inr (by simp; omega))]
   exact h.nil n (by omega) h2
 · by_cases e : n = i
   · subst e
     rw [e2]
     exact hr.kept hk (by simp; omega)
   · rw [e1 n (by omega)]
     exact (h.r n (by omega)).kept hk (by have := h.rb n (by omega); simp; omega)
 · by_cases e : n = i
   · subst e
     rw [e2]
     exact hg
   · rw [e1 n (by omega)]
     exact h.rb n (by omega)
 · by_cases e3 : n = i
   · subst e3
     by_cases e4 : m = n
     · exact e4.symm
     · rw [e2, e1 m (by omega)] at e
       exact absurd e.symm (hfr m (by omega))
   · by_cases e4 : m = i
     · subst e4
       rw [e2, e1 n (by omega)] at e
       exact absurd e (hfr n (by omega))
     · rw [e1 n (by omega), e1 m (by omega)] at e
       exact h.inj n m (by omega) (by omega) e
theorem Vo.vw (h : Vo N f N base w go rw S) : Vw N f w go rw (fun _ => f) S :=
 ⟨h.glt, h.row, fun n a hn ha => (h.r n hn).2.1 a ha, fun n i hn => (h.r n hn).2.2 i, fun n hn => (h.r n hn).1, h.inj, fun n hn => by have := h.gb; have := h.rb n hn; omega⟩
end
def Gr (p : Vb) (T : Nat → Nat → Nat → D) (V : Nat → Nat → U) (n f : Nat) (C : Value → Prop) (v : Nat → U) : Prop :=
 ∀ d, d < f → Glb (fun u => ∃ a, T n a d ≠ top ∧ C (pv2 a d) ∧ u = app (T n a d) (V (If.stOf p.ns n) a)) (v d)
section
variable {p : Vb} {T : Nat → Nat → Nat → D} {V : Nat → Nat → U} {n f : Nat} {C C' : Value → Prop} {v : Nat → U}
theorem Gr.init (h : ∀ a d, C (pv2 a d) → T n a d = top) : Gr p T V n f C (fun _ => topV) := fun d _ =>
 Glb.none (fun _ ⟨a, h1, h2, _⟩ => h1 (h a d h2))
theorem Gr.step (h : Gr p T V n f C v) {a d : Nat} (hC : ∀ key, C' key ↔ (C key ∨ key = pv2 a d)) (hT : T n a d ≠ top) (hd : d < f) :
   Gr p T V n f C' (fun x => if x = d then meetV (v d) (app (T n a d) (V (If.stOf p.ns n) a)) else v x) := fun x hx => by
 by_cases e : x = d
 · subst e
   dsimp only
   rw [if_pos rfl]
   refine (h x hx).add (fun u => ?_)
   constructor
   · rintro ⟨a', h1, h2, h3⟩
     rcases (hC _).1 h2 with h4 | h4
     · exact .inl ⟨a', h1, h4, h3⟩
     · obtain ⟨rfl, -⟩ := pv2_inj h4
       exact .inr h3
   · rintro (⟨a', h1, h2, h3⟩ | h1)
     · exact ⟨a', h1, (hC _).2 (.inl h2), h3⟩
     · exact ⟨a, hT, (hC _).2 (.inr rfl), h1⟩
 · dsimp only
   rw [if_neg e]
   refine (h x hx).iff (fun u => ?_)
   constructor
   · rintro ⟨a', h1, h2, h3⟩
     rcases (hC _).1 h2 with h4 | h4
     · exact ⟨a', h1, h4, h3⟩
     · exact absurd (pv2_inj h4).2 e
   · rintro ⟨a', h1, h2, h3⟩
     exact ⟨a', h1, (hC _).2 (.inl h2), h3⟩
theorem Gr.done (h : Gr p T V n f C v) (hall : ∀ a d, T n a d ≠ top → C (pv2 a d)) (hT : ∀ a d, ¬ a < p.F.toNat → T n a d = top) {d : Nat} (hd : d < f) : v d = solV p T V n d :=
 (at_some ((h d hd).iff (fun _ => ⟨fun ⟨a, h1, h2⟩ => ⟨a, h1, hall a d h1, h2⟩, fun ⟨a, h1, _, h2⟩ => ⟨a, h1, h2⟩⟩))).eq (solV_glb (fun a ha => hT a d ha))
end
end Iv
end Go.Df
namespace Go.Proofs.YtincpmdldpakkaaDoor
open Go.RowKit Go.Df Go.Df.Iv Go.Df.Sp
theorem sol_is {p : Vb} {s s' : St} (h : Tab p 0 [] s) (hq : s.q = []) (g : GoodV p s.T s') (hv : VClo p s.T s'.V) : IsSol p (solV p s.T s'.V) :=
 ⟨s.T, s'.V, h.1.done hq, h.1.good.snd, hv, g.snd, fun n d _ _ => solV_glb (fun a ha => by
   by_cases e : s.T n a d = top
   · exact e
   · exact absurd (h.1.good.wf.rng n a d e).2.1 ha)⟩
end Go.Proofs.YtincpmdldpakkaaDoor
namespace Go.Proofs.YtincpmdldpakkaaDoor
open Go.RowKit Go.Df Go.Df.Iv Go.Df.Sp
attribute [local go_sem ↓] Go.wp_at_zero Go.wp_at_succ
def GetJ (p : Vb) (K : Kn) (mN f : Nat) (w : World) (e : Ending) (w' : World) : Prop :=
 ∃ (go cN : Nat) (rw rc : Nat → Nat) (T : Nat → Nat → Nat → D), e = .returned (.agg #[.slice K.A1 K.n1 K.c1, .slice K.A2 K.n2 K.c2, .int .i64 (mN : Nat), .int .i64 (f : Nat), .slice K.A3 K.n3 K.c3, .slice K.A4 K.n4 K.c4, .slice (some ⟨go, 0, none⟩) K.n1 cN]) ∧ Tw p K.n1 f w' go rw rc T ∧ Clo p T ∧ Snd p T ∧ Below w.heap.size w w' ∧ (∀ n, n < K.n1 → w.heap.size ≤ rw n) ∧ w.heap.size ≤ go
end Go.Proofs.YtincpmdldpakkaaDoor
namespace Go.Df
namespace If
open Sp
end If
namespace Iv
open Sp
def stL (ns : List Nd) (i : Nat) : List Nat := (List.range i).map (If.stOf ns)
noncomputable def vfold (p : Vb) (T : Nat → Nat → Nat → D) (V : Nat → Nat → U) (n d a : Nat) : U := (List.range a).foldl (fun v a => meetV v (app (T n a d) (V (If.stOf p.ns n) a))) topV
end Iv
end Go.Df
namespace Go.Proofs.YtincpmdldpakkaaDoor
open Go.RowKit Go.Df Go.Df.Iv Go.Df.Sp
attribute [local go_sem ↓] Go.wp_at_zero Go.wp_at_succ
end Go.Proofs.YtincpmdldpakkaaDoor
namespace Go.Df.Iv
open Go Go.RowKit Go.Df.Sp
theorem Tw.fx {p : Vb} {N f : Nat} {w w' : World} {go : Nat} {rw rc : Nat → Nat} {T : Nat → Nat → Nat → D} {O O' : Nat → Prop} (h : Tw p N f w go rw rc T) (k : Fx O O' w w') (hg : SafeB O w go) (hr : ∀ n, n < N → SafeB O w (rw n)) : Tw p N f w' go rw rc T :=
 ⟨(hg.fx k).1, fun n hn => (hg.cell k n).trans (h.row n hn), fun n a d hn ha hd => ⟨((hr n hn).cell k _).trans (h.cell n a d hn ha hd).1, ((hr n hn).cell k _).trans (h.cell n a d hn ha hd).2.1, ((hr n hn).cell k _).trans (h.cell n a d hn ha hd).2.2⟩,
   fun n i hn => (World.frozen?_of_block (w := w) ((hr n hn).heap k)).trans (h.fr n i hn), fun n hn => ((hr n hn).fx k).1, h.inj, h.ne, h.top⟩
structure Ln (p : Vb) (N f : Nat) (w : World) (O : Nat → Prop) (go : Nat) (rw rc : Nat → Nat) (T : Nat → Nat → Nat → D) (As : Option Addr) (cs : Nat) : Prop where
 tw : Tw p N f w go rw rc T
 sg : SafeB O w go
 sr : ∀ n, n < N → SafeB O w (rw n)
 st : SInO O w As N cs (ofNats (stL p.ns N))
theorem Ln.fx {p : Vb} {N f : Nat} {w w' : World} {go : Nat} {rw rc : Nat → Nat} {T : Nat → Nat → Nat → D} {O : Nat → Prop} {As : Option Addr} {cs : Nat} (h : Ln p N f w O go rw rc T As cs) (k : Fx O O w w') : Ln p N f w' O go rw rc T As cs :=
 ⟨h.tw.fx k h.sg h.sr, h.sg.fx k, fun n hn => (h.sr n hn).fx k, h.st.fx k⟩
end Go.Df.Iv
namespace Go.Proofs.YtincpmdldpakkaaDoor
open Go.RowKit Go.Df Go.Df.Iv Go.Df.Sp
attribute [local go_sem ↓] Go.wp_at_zero Go.wp_at_succ
def GetL (p : Vb) (N f go2 : Nat) (rw2 rc2 : Nat → Nat) (w : World) (T : Nat → Nat → Nat → D) (V : Nat → Nat → U) (Q : Prop) (e : Ending) (w' : World) : Prop :=
 ∃ b V', e = .returned (.bool b) ∧ Vw N f w' go2 rw2 rc2 V' ∧ Fx (RowO N rw2) (RowO N rw2) w w' ∧ Rv p T V V' b ∧ (b = false → Q)
end Go.Proofs.YtincpmdldpakkaaDoor
namespace Go.Df
open Go.RowKit
namespace Iv
open Sp
def ucel (g : Nat → U) (j : Nat) : List Value := (List.range j).flatMap fun d => [.int .i64 (g d).1.k, .int .i64 (g d).1.n]
def EmU (base : Nat) (tb : TypeId) (f : Nat) (S : Nat → Nat → U) (bs : Nat → Nat) (n : Nat) (w : World) : Prop :=
 (∀ x, x < n → base ≤ bs x ∧ Tag w (bs x) tb ∧ ∀ d, d < f → w.cell? ⟨bs x, d * 2, none⟩ = some (.int .i64 (S x d).1.k) ∧ w.cell? ⟨bs x, d * 2 + 1, none⟩ = some (.int .i64 (S x d).1.n)) ∧ ∀ x y, x < n → y < n → bs x = bs y → x = y
theorem EmU.kept {base : Nat} {tb : TypeId} {f n : Nat} {S : Nat → Nat → U} {bs : Nat → Nat} {X : List Nat} {w w' : World} (h : EmU base tb f S bs n w) (hk : Kept X w w') (hX : ∀ x, x < n → bs x ∉ X) : EmU base tb f S bs n w' :=
 ⟨fun x hx => by
   obtain ⟨h1, h2, h3⟩ := h.1 x hx
   exact ⟨h1, h2.same (hk.block _ h2.lt (hX x hx)), fun d hd => ⟨(hk.cell _ _ h2.lt (hX x hx)).trans (h3 d hd).1, (hk.cell _ _ h2.lt (hX x hx)).trans (h3 d hd).2⟩⟩, h.2⟩
theorem EmU.snoc {base : Nat} {tb : TypeId} {f n g : Nat} {S : Nat → Nat → U} {bs : Nat → Nat} {w : World} (h : EmU base tb f S bs n w) (hg : base ≤ g) (ht : Tag w g tb) (hc : ∀ d, d < f → w.cell? ⟨g, d * 2, none⟩ = some (.int .i64 (S n d).1.k) ∧ w.cell? ⟨g, d * 2 + 1, none⟩ = some (.int .i64 (S n d).1.n)) (hn : ∀ x, x < n → bs x ≠ g) : EmU base tb f S (updN bs n g) (n + 1) w := by
 refine ⟨fun x hx => ?_, fun x y hx hy e => ?_⟩
 · unfold updN
   by_cases e : x = n
   · rw [if_pos e, e]; exact ⟨hg, ht, hc⟩
   · rw [if_neg e]; exact h.1 x (by omega)
 · unfold updN at e
   by_cases e1 : x = n
   · by_cases e2 : y = n
     · omega
     · rw [if_pos e1, if_neg e2] at e; exact absurd e.symm (hn y (by omega))
   · by_cases e2 : y = n
     · rw [if_neg e1, if_pos e2] at e; exact absurd e (hn x (by omega))
     · rw [if_neg e1, if_neg e2] at e; exact h.2 x y (by omega) (by omega) e
end Iv
end Go.Df
namespace Go.Proofs.YtincpmdldpakkaaDoor
open Go.RowKit Go.Df Go.Df.Iv Go.Df.Sp
attribute [local go_sem ↓] Go.wp_at_zero Go.wp_at_succ
theorem val_info9 : (Tryd.prog.info? 56).map (fun i => (i.zero, i.size, i.bytes)) = some (some (.agg #[.int .i64 0, .int .i64 0]), 2, 16) := by kernel_rfl
theorem rowv_info : (Tryd.prog.info? 66).map (fun i => (i.zero, i.size, i.bytes)) = some (some (.slice none 0 0), 1, 24) := by kernel_rfl
theorem Inp.kept9 {p : Vb} {K : Kn} {w w' : World} (h : Inp p K w) (hk : Kept [] w w') : Inp p K w' := by
 have hb := hk.toBelow
 refine ⟨h.nd.later hb, h.ed.later hb, h.fl.later hb, h.sd.later hb, fun b o i A n c e hi hc => ?_⟩
 obtain ⟨b', o', e', hl, hc'⟩ := h.fl.2 (by omega)
 rw [e] at e'
 injection e' with e'
 injection e' with e1 e2
 subst e1 e2
 exact h.fc b o i A n c e hi ((hb.cell (p := ⟨b, _, none⟩) hl).symm.trans hc)
def GetU (p : Vb) (N f : Nat) (w : World) (e : Ending) (w' : World) : Prop :=
 ∃ (go cc : Nat) (rw rc : Nat → Nat) (S : Nat → Nat → U), e = .returned (.tuple #[.agg #[.slice (some ⟨go, 0, none⟩) N cc], .int .i64 0]) ∧ Vw N f w' go rw rc S ∧ IsSol p S ∧ Below w.heap.size w w'
end Go.Proofs.YtincpmdldpakkaaDoor
