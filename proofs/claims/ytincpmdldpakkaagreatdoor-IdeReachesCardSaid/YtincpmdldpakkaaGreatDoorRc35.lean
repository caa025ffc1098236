/- Texts: Aj Id Ie Kh. -/
import Derived.Test.YtincpmdldpakkaaGreatDoorRc18
import Derived.Test.YtincpmdldpakkaaGreatDoorRc06
import Derived.Test.YtincpmdldpakkaaGreatDoorRc07
namespace Go.Df
open Go.RowKit
namespace If
open Sp
theorem Ok.st_flow {p : Pb} (h : Ok p) {k : Nat} (hk : k < p.es.length) (h2 : (ge p.es k).k = 1 ∨ (ge p.es k).k = 5) : stOf p.ns (ge p.es k).b.toNat = stOf p.ns (ge p.es k).a.toNat := by
 have h0 := h.edge hk
 have h1 := h0.2.2.2.2.2.2.2
 unfold fitsB fitsN at h1
 rw [if_pos h2] at h1
 simp at h1
 have ha : (ge p.es k).a.toNat < p.ns.length := by omega
 have hb : (ge p.es k).b.toNat < p.ns.length := by omega
 have hs := h.nd.start ha
 have hl := stOf_le p.ns (ge p.es k).a.toNat
 exact (h.nd.start_iff hb (by omega) hs.2).2 (by rw [hs.1]; exact h1.1.1.1.1)
theorem Ok.st_ret {p : Pb} (h : Ok p) {k : Nat} (hk : k < p.es.length) (h2 : (ge p.es k).k = 3 ∨ (ge p.es k).k = 4) : stOf p.ns (ge p.es k).b.toNat = stOf p.ns (ge p.es k).c.toNat := by
 have h0 := h.edge hk
 have h1 := h0.2.2.2.2.2.2.2
 unfold fitsB fitsN at h1
 rw [if_neg (by omega), if_neg (by omega)] at h1
 split at h1
 ·cases h1
 ·simp at h1
  have hc := h0.2.2.2.2.2.2.1 (by omega) (by omega)
  have hb : (ge p.es k).b.toNat < p.ns.length := by omega
  have hc' : (ge p.es k).c.toNat < p.ns.length := by omega
  have hs := h.nd.start hc'
  have hl := stOf_le p.ns (ge p.es k).c.toNat
  exact (h.nd.start_iff hb (by omega) hs.2).2 (by rw [hs.1]; exact h1.1.2.symm)
theorem Ok.st_call {p : Pb} (h : Ok p) {k : Nat} (hk : k < p.es.length) (h2 : (ge p.es k).k = 2) : stOf p.ns (ge p.es k).b.toNat = (ge p.es k).b.toNat := by
 have h0 := h.edge hk
 have h1 := (h.call hk h2).1
 have hb : (ge p.es k).b.toNat < p.ns.length := by omega
 exact (h.nd.start_iff hb hb h1).2 rfl
theorem Ok.st_main {p : Pb} (h : Ok p) : stOf p.ns p.mn.toNat = p.mn.toNat := by
 have hm := main_in (sup_parts h.sup).2.2.1
 have hb : p.mn.toNat < p.ns.length := by omega
 exact (h.nd.start_iff hb hb hm.2.2).2 rfl
theorem Ok.zero {p : Pb} (h : Ok p) {k : Nat} (hk : k < p.es.length) : (⟨0, 0⟩ : Pr) ∈ gf p.fl k := by
 have h1 := h.fl k (by rw [h.len]; exact hk)
 have h2 : gp (gf p.fl k) 0 = ⟨0, 0⟩ := h1.2.2.2
 rw [← h2]
 unfold gp
 rw [List.getD_eq_getElem?_getD, List.getElem?_eq_getElem h1.2.2.1]
 exact List.getElem_mem _
theorem PE.zero {p : Pb} (h : Ok p) {a n d : Nat} (hp : PE p a n d) : PE p 0 n 0 := by
 induction hp with
 | main => exact .main
 | seed h1 _ _ => exact h1
 | flow hk h2 _ _ ih => exact .flow (q := ⟨0, 0⟩) hk h2 (h.zero hk) ih
 | call hk h2 _ _ ih => exact .call (q := ⟨0, 0⟩) hk h2 (h.zero hk) ih
 | ret hc h2 _ hr h3 _ e1 e2 _ _ ih1 ih2 => exact .ret (q := ⟨0, 0⟩) (s := ⟨0, 0⟩) hc h2 (h.zero hc) hr h3 (h.zero hr) e1 e2 ih1 ih2
end If
namespace Iv
open Sp
theorem meet_bot (x : D) : meet x bot = bot := Subtype.ext (by
 show Go.Proofs.YtincpmdldpakkaaGreatDoor.Xf.meet x.1 ⟨4, 0, 0⟩ = ⟨4, 0, 0⟩
 rcases Go.Proofs.YtincpmdldpakkaaGreatDoor.Xf.valid_cases x.2.1 with h | ⟨c, h⟩ | ⟨b, h⟩ | ⟨b, c, h⟩ | h <;> rw [h] <;> simp [Go.Proofs.YtincpmdldpakkaaGreatDoor.Xf.meet])
theorem bot_le (x : D) : le bot x := meet_bot x
theorem meetV_bot (v : U) : meetV v botV = botV := Subtype.ext (by
 show Go.Proofs.YtincpmdldpakkaaGreatDoor.Xf.meetV v.1 ⟨2, 0⟩ = ⟨2, 0⟩
 rcases Go.Proofs.YtincpmdldpakkaaGreatDoor.Xf.validV_cases v.2.1 with h | ⟨c, h⟩ | h <;> rw [h] <;> simp [Go.Proofs.YtincpmdldpakkaaGreatDoor.Xf.meetV])
theorem botV_le (v : U) : leV botV v := meetV_bot v
theorem botV_of {v : U} (h : leV v botV) : v = botV := leV_antisymm h (botV_le v)
theorem comp_shift : comp shift shift = shift := by decide +kernel
theorem comp_le_shift {x y : D} (hx : le x shift) (hy : le y shift) : le (comp x y) shift := by
 have h := comp_mono hx hy
 rw [comp_shift] at h
 exact h
theorem pe_of {p : Vb} {T : Nat → Nat → Nat → D} (hT : Snd p T) {n a d : Nat} (h : T n a d ≠ top) : If.PE (pf p) a n d := by
 classical
 refine Classical.byContradiction fun hn => h ?_
 have hc : Clo p (fun n a d => if If.PE (pf p) a n d then bot else top) := by
  refine ⟨?_, fun s hs h0 => ?_, fun k hk h2 q hq a => ?_, fun k hk h2 q hq a h0 _ => ?_, fun c hc h2 q hq r hr h3 u hu e1 e2 a => ?_⟩
  ·have h1 : If.PE (pf p) 0 p.mn.toNat 0 := .main
   show le (if If.PE (pf p) 0 p.mn.toNat 0 then bot else top) shift
   rw [if_pos h1]
   exact bot_le _
  ·have h1 : If.PE (pf p) 0 s.n.toNat 0 := Classical.byContradiction fun h9 => h0 (if_neg h9)
   have h2 : If.PE (pf p) 0 s.n.toNat s.f.toNat := .seed (p := pf p) (s := ⟨s.n, s.f⟩) h1 (List.mem_map.2 ⟨s, hs, rfl⟩)
   show le (if If.PE (pf p) 0 s.n.toNat s.f.toNat then bot else top) _
   rw [if_pos h2]
   exact bot_le _
  ·have hq' : (⟨q.i, q.o⟩ : If.Pr) ∈ If.gf (pf p).fl k := by rw [pf_gf]; exact List.mem_map.2 ⟨q, hq, rfl⟩
   show le (if If.PE (pf p) a (ge p.es k).b.toNat q.o.toNat then bot else top) (comp (if If.PE (pf p) a (ge p.es k).a.toNat q.i.toNat then bot else top) (xd q))
   by_cases h5 : If.PE (pf p) a (ge p.es k).a.toNat q.i.toNat
   ·have h6 : If.PE (pf p) a (ge p.es k).b.toNat q.o.toNat := .flow (p := pf p) (q := ⟨q.i, q.o⟩) hk h2 hq' h5
    rw [if_pos h6]
    exact bot_le _
   ·rw [if_neg h5, top_comp]
    exact le_top _
  ·have hq' : (⟨q.i, q.o⟩ : If.Pr) ∈ If.gf (pf p).fl k := by rw [pf_gf]; exact List.mem_map.2 ⟨q, hq, rfl⟩
   have h5 : If.PE (pf p) a (ge p.es k).a.toNat q.i.toNat := Classical.byContradiction fun h9 => h0 (if_neg h9)
   have h6 : If.PE (pf p) q.o.toNat (ge p.es k).b.toNat q.o.toNat := .call (p := pf p) (q := ⟨q.i, q.o⟩) hk h2 hq' h5
   show le (if If.PE (pf p) q.o.toNat (ge p.es k).b.toNat q.o.toNat then bot else top) shift
   rw [if_pos h6]
   exact bot_le _
  ·have hq' : (⟨q.i, q.o⟩ : If.Pr) ∈ If.gf (pf p).fl c := by rw [pf_gf]; exact List.mem_map.2 ⟨q, hq, rfl⟩
   have hu' : (⟨u.i, u.o⟩ : If.Pr) ∈ If.gf (pf p).fl r := by rw [pf_gf]; exact List.mem_map.2 ⟨u, hu, rfl⟩
   show le (if If.PE (pf p) a (ge p.es r).b.toNat u.o.toNat then bot else top) (comp (comp (comp (if If.PE (pf p) a (ge p.es c).a.toNat q.i.toNat then bot else top) (xd q)) (if If.PE (pf p) q.o.toNat (ge p.es r).a.toNat u.i.toNat then bot else top)) (xd u))
   by_cases h5 : If.PE (pf p) a (ge p.es c).a.toNat q.i.toNat
   ·by_cases h6 : If.PE (pf p) q.o.toNat (ge p.es r).a.toNat u.i.toNat
    ·have h7 : If.PE (pf p) a (ge p.es r).b.toNat u.o.toNat := .ret (p := pf p) (q := ⟨q.i, q.o⟩) (s := ⟨u.i, u.o⟩) hc h2 hq' hr h3 hu' e1 e2 h5 h6
     rw [if_pos h7]
     exact bot_le _
    ·rw [if_neg h6, comp_top, top_comp]
     exact le_top _
   ·rw [if_neg h5, top_comp, top_comp, top_comp]
    exact le_top _
 have h1 := hT _ hc n a d
 have e : (if If.PE (pf p) a n d then bot else top) = top := if_neg hn
 have h2 : le (if If.PE (pf p) a n d then bot else top) (T n a d) := h1
 rw [e] at h2
 exact top_of_le h2
theorem xd_first {p : Vb} (ho : VOk p) {k : Nat} (hk : k < p.es.length) : (⟨0, 0, 2, 0, 0⟩ : Xp) ∈ gl p.fl k ∧ xd ⟨0, 0, 2, 0, 0⟩ = shift := by
 have h1 := ho.fl k (by rw [ho.len]; exact hk)
 refine ⟨by rw [← h1.2.2.2]; exact gx_mem h1.2.2.1, Subtype.ext (xd_is (by decide) (by decide +kernel) (by decide +kernel))⟩
theorem zero_of {p : Vb} (ho : VOk p) {T : Nat → Nat → Nat → D} {V : Nat → Nat → U} (hT : Clo p T) (hV : VClo p T V) {a n d : Nat} (h : If.PE (pf p) a n d) : le (T n 0 0) shift ∧ V (If.stOf p.ns n) 0 = botV := by
 have hp := ho.pf
 induction h with
 | main => exact ⟨hT.main, by rw [show If.stOf p.ns (pf p).mn.toNat = p.mn.toNat from hp.st_main]; exact botV_of hV.main⟩
 | seed _ _ ih => exact ih
 | @flow a k q hk h2 _ _ ih =>
  have hf := xd_first ho (k := k) hk
  refine ⟨?_, ?_⟩
  ·have h1 := hT.flow k hk h2 _ hf.1 0
   rw [hf.2] at h1
   exact le_trans h1 (comp_le_shift ih.1 (le_refl _))
  ·rw [show If.stOf p.ns (ge (pf p).es k).b.toNat = If.stOf p.ns (ge p.es k).a.toNat from hp.st_flow hk h2]
   exact ih.2
 | @call a k q hk h2 _ _ ih =>
  have hf := xd_first ho (k := k) hk
  refine ⟨?_, ?_⟩
  ·have h1 := hT.call k hk h2 _ hf.1 0 (fun h0 => ?_) (by rw [hf.2]; decide)
   ·exact h1
   ·have h9 := ih.1
    have e : T (ge (pf p).es k).a.toNat 0 0 = top := h0
    rw [e] at h9
    exact absurd (top_of_le h9) shift_ne
  ·rw [show If.stOf p.ns (ge (pf p).es k).b.toNat = (ge p.es k).b.toNat from hp.st_call hk h2]
   have h1 := hV.call k hk h2 _ hf.1 0
   rw [hf.2] at h1
   have e : V (If.stOf p.ns (ge p.es k).a.toNat) 0 = botV := ih.2
   have h2 : leV (app (comp (T (ge p.es k).a.toNat 0 0) shift) (V (If.stOf p.ns (ge p.es k).a.toNat) 0)) botV := by
    rw [e]
    have h5 := app_mono (comp_le_shift ih.1 (le_refl shift)) (leV_refl botV)
    rw [shift_app] at h5
    exact h5
   exact botV_of (leV_trans h1 h2)
 | @ret a c r q s hc h2 _ hr h3 _ e1 e2 _ _ ih1 ih2 =>
  have hf := xd_first ho (k := c) hc
  have hg := xd_first ho (k := r) hr
  refine ⟨?_, ?_⟩
  ·have h1 := hT.ret c hc h2 _ hf.1 r hr h3 _ hg.1 e1 e2 0
   rw [hf.2] at h1
   exact le_trans h1 (comp_le_shift (comp_le_shift (comp_le_shift ih1.1 (le_refl _)) ih2.1) (le_refl _))
  ·rw [show If.stOf p.ns (ge (pf p).es r).b.toNat = If.stOf p.ns (ge p.es r).c.toNat from hp.st_ret hr h3]
   have e1' : (ge p.es c).a = (ge p.es r).c := e1
   rw [← e1']
   exact ih1.2
theorem sol_zero {p : Vb} (ho : VOk p) {S : Nat → Nat → U} (hS : IsSol p S) {n : Nat} (hn : n < p.ns.length) : (If.PE (pf p) 0 n 0 → S n 0 = botV) ∧ (¬ If.PE (pf p) 0 n 0 → S n 0 = topV) := by
 obtain ⟨T, V, c1, s1, v1, w1, g1⟩ := hS
 have hF : 0 < p.F.toNat := by have := ho.f1; omega
 have hg := g1 n 0 hn hF
 refine ⟨fun h => ?_, fun h => ?_⟩
 ·have h1 := zero_of ho c1 v1 h
  refine botV_of (leV_trans (hg.1 _ ⟨0, rfl⟩) ?_)
  rw [h1.2]
  have h5 := app_mono h1.1 (leV_refl botV)
  rw [shift_app] at h5
  exact h5
 ·refine hg.eq ⟨fun u hu => ?_, fun z _ => leV_top z⟩
  obtain ⟨a, rfl⟩ := hu
  have h1 : T n a 0 = top := Classical.byContradiction fun h9 => h ((pe_of s1 h9).zero ho.pf)
  rw [h1, top_app]
  exact leV_refl _
theorem sol_holds {p : Vb} {S : Nat → Nat → U} (hS : IsSol p S) {n d : Nat} (hn : n < p.ns.length) (hd : d < p.F.toNat) (h : S n d ≠ topV) : ∃ a, If.PE (pf p) a n d := by
 obtain ⟨T, V, c1, s1, v1, w1, g1⟩ := hS
 refine Classical.byContradiction fun hno => h ((g1 n d hn hd).eq ⟨fun u hu => ?_, fun z _ => leV_top z⟩)
 obtain ⟨a, rfl⟩ := hu
 have h1 : T n a d = top := Classical.byContradiction fun h9 => hno ⟨a, pe_of s1 h9⟩
 rw [h1, top_app]
 exact leV_refl _
def Plain (p : Vb) : Prop := ∀ k, k < p.es.length → ∀ q ∈ gl p.fl k, xd q = shift
end Iv
end Go.Df
namespace Go.Df
open Go.RowKit
namespace If
open Sp
structure Wf (p : Pb) (s : St) : Prop where
 rng : ∀ n a d, s.h n a d = true → n < p.ns.length ∧ a < p.F.toNat ∧ d < p.F.toNat
 ph : ∀ n x, x ∈ s.pd n → s.h n x.1 x.2 = true
 nd : ∀ n, (s.pd n).Nodup
 qn : s.q.Nodup
 qp : ∀ n, n ∈ s.q ↔ s.pd n ≠ []
 ee : ∀ k b a, s.e k b a = true → a < p.F.toNat ∧ k < p.es.length ∧ (ge p.es k).k = 2
theorem Wf.add {p : Pb} {s : St} (h : Wf p s) {n a d : Nat} (hn : n < p.ns.length) (ha : a < p.F.toNat) (hd : d < p.F.toNat) : Wf p (s.add n a d) := by
 unfold St.add
 split
 ·exact h
 ·rename_i h0
  refine ⟨fun n' a' d' h' => ?_, fun n' x hx => ?_, fun n' => ?_, ?_, fun n' => ?_, h.ee⟩
  ·simp at h'
   rcases h' with h' | ⟨rfl, rfl, rfl⟩
   ·exact h.rng _ _ _ h'
   ·exact ⟨hn, ha, hd⟩
  ·dsimp only at hx
   split at hx
   ·rename_i e
    subst e
    simp at hx
    rcases hx with hx | rfl
    ·simp [h.ph _ _ hx]
    ·simp
   ·simp [h.ph _ _ hx]
  ·dsimp only
   split
   ·rename_i e
    subst e
    rw [List.nodup_append]
    refine ⟨h.nd _, by simp, ?_⟩
    intro x hx y hy
    simp at hy
    subst hy
    rintro rfl
    exact h0 (h.ph _ _ hx)
   ·exact h.nd _
  ·dsimp only
   split
   ·rename_i e
    rw [List.nodup_append]
    refine ⟨h.qn, by simp, ?_⟩
    intro x hx y hy
    simp at hy
    subst hy
    rintro rfl
    exact (h.qp _).1 hx e
   ·exact h.qn
  ·dsimp only
   by_cases e : n' = n
   ·subst e
    split
    ·simp
    ·rename_i e2
     simp [(h.qp n').2 e2]
   ·rw [if_neg e]
    split
    ·rw [List.mem_append, h.qp]
     simp [e]
    ·exact h.qp _
theorem Wf.ent {p : Pb} {s : St} (h : Wf p s) {k b a : Nat} (ha : a < p.F.toNat) (hk : k < p.es.length) (hk2 : (ge p.es k).k = 2) : Wf p (s.ent k b a) := by
 refine ⟨h.rng, h.ph, h.nd, h.qn, h.qp, fun k' b' a' h' => ?_⟩
 simp [St.ent] at h'
 rcases h' with h' | ⟨rfl, rfl, rfl⟩
 ·exact h.ee _ _ _ h'
 ·exact ⟨ha, hk, hk2⟩
theorem spread_wf {p : Pb} (ho : Ok p) {k a d : Nat} (hk : k < p.es.length) (ha : a < p.F.toNat) {s : St} (h : Wf p s) : Wf p (spread p k a d s) := by
 refine fold_keep (Q := Wf p) _ s (fun q hq t ht => ?_) h
 have h1 := ho.pair (by rw [ho.len]; exact hk) (mem_froms.1 hq).1
 have h2 := ho.edge hk
 exact ht.add (by omega) ha (by omega)
theorem enter1_wf {p : Pb} (ho : Ok p) {k a b : Nat} (hk : k < p.es.length) (hk2 : (ge p.es k).k = 2) (ha : a < p.F.toNat) (hb : b < p.F.toNat) {s : St} (h : Wf p s) : Wf p (enter1 p k a b s) := by
 have h2 := ho.edge hk
 have h4 : Wf p (s.add (ge p.es k).b.toNat b b) := h.add (by omega) hb hb
 unfold enter1
 split
 ·exact h4
 ·refine fold_keep (Q := Wf p) _ _ (fun r hr t ht => ?_) (h4.ent ha hk hk2)
  unfold enterR
  split
  ·exact fold_keep (Q := Wf p) _ t (fun f _ u hu => spread_wf ho (retL_mem.1 hr).1 ha hu) ht
  ·exact ht
theorem step_wf {p : Pb} (ho : Ok p) {n a d : Nat} (hn : n < p.ns.length) (ha : a < p.F.toNat) {s : St} (h : Wf p s) : Wf p (step p n a d s) := by
 have f1 := ho.f1
 have h1 : Wf p (stepA p n a d s) := by
  unfold stepA
  split
  ·refine fold_keep (Q := Wf p) _ s (fun x hx t ht => ?_) h
   have := ho.seed (seedL_mem.1 hx).1
   exact ht.add hn (by omega) (by omega)
  ·exact h
 have h2 : Wf p ((outL p n).foldl (stepE p a d) (stepA p n a d s)) := by
  refine fold_keep (Q := Wf p) _ _ (fun k hk t ht => ?_) h1
  unfold stepE
  split
  ·exact spread_wf ho (outL_mem.1 hk).1 ha ht
  ·split
   ·rename_i hk2
    refine fold_keep (Q := Wf p) _ t (fun q hq u hu => ?_) ht
    have h1 := ho.pair (by rw [ho.len]; exact (outL_mem.1 hk).1) (mem_froms.1 hq).1
    exact enter1_wf ho (outL_mem.1 hk).1 hk2 ha (by omega) hu
   ·exact ht
 unfold step
 split
 ·refine fold_keep (Q := Wf p) _ _ (fun k hk t ht => ?_) h2
  refine fold_keep (Q := Wf p) _ t (fun r hr u hu => ?_) ht
  unfold leaveR
  split
  ·exact fold_keep (Q := Wf p) _ u (fun a' ha' v hv => spread_wf ho (retL_mem.1 hr).1 (elems_mem.1 ha').1 hv) hu
  ·exact hu
 ·exact h2
def trip (N F : Nat) : List (Nat × Nat × Nat) := (List.range N).flatMap fun n => (List.range F).flatMap fun a => (List.range F).map fun d => (n, a, d)
theorem mem_trip {N F n a d : Nat} : (n, a, d) ∈ trip N F ↔ n < N ∧ a < F ∧ d < F := by
 simp only [trip, List.mem_flatMap, List.mem_map, List.mem_range, Prod.mk.injEq]
 constructor
 ·rintro ⟨_, h1, _, h2, _, h3, rfl, rfl, rfl⟩; exact ⟨h1, h2, h3⟩
 ·rintro ⟨h1, h2, h3⟩; exact ⟨n, h1, a, h2, d, h3, rfl, rfl, rfl⟩
theorem countP_lt {α : Type} {P Q : α → Bool} (hPQ : ∀ x, P x = true → Q x = true) {y : α} (hQ : Q y = true) (hP : P y = false) : ∀ (l : List α), y ∈ l → l.countP P < l.countP Q
 | x :: l, hy => by
  have hm : l.countP P ≤ l.countP Q := List.countP_mono_left fun z _ h => hPQ z h
  rw [List.countP_cons, List.countP_cons]
  rcases List.mem_cons.1 hy with rfl | hy
  ·rw [hQ, hP]; simp; omega
  ·have := countP_lt hPQ hQ hP l hy
   by_cases h1 : P x = true
   ·rw [h1, hPQ x h1]; simp; omega
   ·simp at h1
    rw [h1]
    simp
    omega
def unh (p : Pb) (s : St) : Nat := (trip p.ns.length p.F.toNat).countP fun x => !s.h x.1 x.2.1 x.2.2
def mea (p : Pb) (s : St) : Nat := 2 * unh p s + s.q.length
def popS (s : St) (n : Nat) (r : List Nat) : St := ⟨s.h, s.e, fun n' => if n' = n then [] else s.pd n', r⟩
def batch (p : Pb) (n : Nat) (l : List (Nat × Nat)) (s : St) : St := l.foldl (fun s x => step p n x.1 x.2 s) s
def init (p : Pb) : St := (St.add ⟨fun _ _ _ => false, fun _ _ _ => false, fun _ => [], []⟩ p.mn.toNat 0 0)
structure Inv (p : Pb) (n : Nat) (rest : List (Nat × Nat)) (s : St) : Prop where
 wf : Wf p s
 snd : Snd p s
 cp : Cp p s (Dn s n rest)
 main : s.h p.mn.toNat 0 0 = true
 rs : ∀ x ∈ rest, s.h n x.1 x.2 = true
theorem Wf.pop {p : Pb} {s : St} (h : Wf p s) {n : Nat} {r : List Nat} (hq : s.q = n :: r) : Wf p (popS s n r) := by
 have hn := h.qn
 rw [hq, List.nodup_cons] at hn
 refine ⟨h.rng, fun n' x hx => ?_, fun n' => ?_, hn.2, fun n' => ?_, h.ee⟩
 ·dsimp only [popS] at hx
  split at hx
  ·cases hx
  ·exact h.ph _ _ hx
 ·dsimp only [popS]
  split
  ·exact List.nodup_nil
  ·exact h.nd _
 ·dsimp only [popS]
  have h1 := h.qp n'
  rw [hq, List.mem_cons] at h1
  by_cases e : n' = n
  ·subst e
   simp [hn.1]
  ·rw [if_neg e, ← h1]
   simp [e]
theorem Inv.pop {p : Pb} {s : St} {n0 : Nat} (h : Inv p n0 [] s) {n : Nat} {r : List Nat} (hq : s.q = n :: r) : Inv p n (s.pd n) (popS s n r) := by
 refine ⟨h.wf.pop hq, ⟨h.snd.h, h.snd.e⟩, ?_, h.main, fun x hx => h.wf.ph _ _ hx⟩
 have hD : ∀ x y z, Dn (popS s n r) n (s.pd n) x y z → Dn s n0 [] x y z := fun x y z hd => by
  refine ⟨hd.1, fun hm => ?_, fun hm => by cases hm.2⟩
  by_cases e : x = n
  ·subst e; exact hd.2.2 ⟨rfl, hm⟩
  ·exact hd.2.1 (by dsimp only [popS]; rw [if_neg e]; exact hm)
 exact ⟨fun m hm => h.cp.seed m (hD _ _ _ hm), fun m b c hm => h.cp.flow m b c (hD _ _ _ hm), fun m b c hm => h.cp.call m b c (hD _ _ _ hm), fun k b a hk r' r1 r2 r3 r4 d hd => h.cp.ret k b a hk r' r1 r2 r3 r4 d (hD _ _ _ hd)⟩
theorem Inv.step {p : Pb} (ho : Ok p) {s : St} {n a d : Nat} {rest : List (Nat × Nat)} (h : Inv p n ((a, d) :: rest) s) : Inv p n rest (step p n a d s) := by
 have hh := h.rs (a, d) (by simp)
 have hr := h.wf.rng _ _ _ hh
 have hp := h.snd.h _ _ _ hh
 have hl := step_le p n a d s
 have f1 := ho.f1
 refine ⟨step_wf ho hr.1 hr.2.1 h.wf, step_snd ho hp h.snd, ?_, hl.h _ _ _ h.main, fun x hx => hl.h _ _ _ (h.rs x (by simp [hx]))⟩
 refine step_cp ho hr.1 (by omega) (by omega) (D := Dn s n ((a, d) :: rest)) (fun n a d hd => ⟨hd.1, (h.wf.rng _ _ _ hd.1).2.2⟩) h.wf.ee h.cp _ ?_
 intro x y z hd
 have h1 : s.h x y z = true := by
  rcases hl.new _ _ _ hd.1 with h1 | h1
  ·exact h1
  ·exact absurd h1 hd.2.1
 by_cases e : x = n ∧ y = a ∧ z = d
 ·exact .inr e
 ·refine .inl ⟨h1, fun hm => hd.2.1 (hl.pd _ _ hm), fun hm => ?_⟩
  rcases List.mem_cons.1 hm.2 with h2 | h2
  ·injection h2 with h3 h4
   exact e ⟨hm.1, h3, h4⟩
  ·exact hd.2.2 ⟨hm.1, h2⟩
theorem Inv.rest {p : Pb} {s : St} {n : Nat} (h : Inv p n [] s) (m : Nat) : Inv p m [] s := by
 have hD : ∀ x y z, Dn s m [] x y z → Dn s n [] x y z := fun x y z hd => ⟨hd.1, hd.2.1, fun hm => by cases hm.2⟩
 exact ⟨h.wf, h.snd, ⟨fun m hm => h.cp.seed m (hD _ _ _ hm), fun m b c hm => h.cp.flow m b c (hD _ _ _ hm), fun m b c hm => h.cp.call m b c (hD _ _ _ hm), fun k b a hk r' r1 r2 r3 r4 d hd => h.cp.ret k b a hk r' r1 r2 r3 r4 d (hD _ _ _ hd)⟩, h.main, fun x hx => by cases hx⟩
theorem mea_pop {p : Pb} {s : St} {n : Nat} {r : List Nat} (hq : s.q = n :: r) : mea p (popS s n r) + 1 = mea p s := by
 unfold mea
 rw [hq]
 show 2 * unh p s + r.length + 1 = _
 rw [List.length_cons]
 omega
theorem init_inv {p : Pb} (ho : Ok p) : Inv p 0 [] (init p) := by
 have hm := main_in (sup_parts ho.sup).2.2.1
 have f1 := ho.f1
 have h0 : Wf p ⟨fun _ _ _ => false, fun _ _ _ => false, fun _ => [], []⟩ := ⟨by simp, by simp, by simp, by simp, by simp, by simp⟩
 have s0 : Snd p ⟨fun _ _ _ => false, fun _ _ _ => false, fun _ => [], []⟩ := ⟨by simp, by simp⟩
 have hd : ∀ x y z, ¬ Dn (init p) 0 [] x y z := by
  rintro x y z ⟨h1, h2, -⟩
  unfold init St.add at h1 h2
  simp at h1 h2
  obtain ⟨rfl, rfl, rfl⟩ := h1
  simp at h2
 have he : ∀ k b a, (init p).e k b a = false := by
  intro k b a
  unfold init
  rw [St.add_e]
 refine ⟨h0.add (by omega) (by omega) (by omega), s0.add .main, ⟨fun m hm => absurd hm (hd _ _ _), fun m b c hm => absurd hm (hd _ _ _), fun m b c hm => absurd hm (hd _ _ _), fun k b a hk => by rw [he] at hk; cases hk⟩, St.add_has _ _ _ _, fun x hx => by cases hx⟩
theorem Inv.done {p : Pb} (ho : Ok p) {s : St} {n : Nat} (h : Inv p n [] s) (hq : s.q = []) (a m d : Nat) : s.h m a d = true ↔ PE p a m d := by
 have hpd : ∀ n, s.pd n = [] := fun n => Decidable.byContradiction fun hh => by
  have := (h.wf.qp n).2 hh
  rw [hq] at this
  cases this
 have hD : ∀ x y z, s.h x y z = true → Dn s n [] x y z := fun x y z hh => ⟨hh, by rw [hpd]; simp, fun hm => by cases hm.2⟩
 refine ⟨h.snd.h _ _ _, ?_⟩
 refine Clo.all (T := fun a n d => s.h n a d = true) ⟨h.main, ?_, ?_, ?_, ?_⟩
 ·intro x hx ht
  have := ho.seed hx
  exact h.cp.seed _ (hD _ _ _ ht) x hx (by omega)
 ·intro k hk hk2 q hq' b ht
  have h1 := ho.pair (by rw [ho.len]; exact hk) hq'
  have h2 := ho.edge hk
  exact h.cp.flow _ _ _ (hD _ _ _ ht) k hk hk2 (by omega) q hq' (by omega)
 ·intro k hk hk2 q hq' b ht
  have h1 := ho.pair (by rw [ho.len]; exact hk) hq'
  have h2 := ho.edge hk
  exact (h.cp.call _ _ _ (hD _ _ _ ht) k hk hk2 (by omega) q hq' (by omega)).1
 ·intro c hc hc2 q hq' r hr hr2 t ht' e1 e2 b hb hb2
  have h1 := ho.pair (by rw [ho.len]; exact hc) hq'
  have h2 := ho.edge hc
  have h3 := ho.pair (by rw [ho.len]; exact hr) ht'
  have h4 := ho.edge hr
  have h5 := (h.cp.call _ _ _ (hD _ _ _ hb) c hc hc2 (by omega) q hq' (by omega)).2
  exact h.cp.ret _ _ _ h5 r hr hr2 e1.symm ((ho.nd.start_iff (by omega) (by omega) (ho.call hc hc2).1).2 e2) _ (hD _ _ _ hb2) t ht' (by omega)
end If
end Go.Df
namespace Go.Df
open Go.RowKit
namespace If
open Sp
abbrev Tm := (Nat → Nat → Nat → Bool) × Bool
def putT (s : Tm) (n a d : Nat) : Tm := if s.1 n a d = true then s else (fun n' a' d' => s.1 n' a' d' || (n' == n && (a' == a && d' == d)), true)
def up : Nat → (Nat → Tm → Tm) → Tm → Tm
 | 0, _, s => s
 | i + 1, f, s => f i (up i f s)
def seededT (p : Pb) (j : Nat) : Tm → Tm := up j fun i s => if s.1 (gd p.sd i).n.toNat 0 0 = true then putT s (gd p.sd i).n.toNat 0 (gd p.sd i).f.toNat else s
def passedR (p : Pb) (k a j : Nat) : Tm → Tm := up j fun i s => if s.1 (ge p.es k).a.toNat a (gp (gf p.fl k) i).i.toNat = true then putT s (ge p.es k).b.toNat a (gp (gf p.fl k) i).o.toNat else s
def passedT (p : Pb) (k j : Nat) : Tm → Tm := up j fun a => passedR p k a (gf p.fl k).length
def enteredR (p : Pb) (k a j : Nat) : Tm → Tm := up j fun i s => if s.1 (ge p.es k).a.toNat a (gp (gf p.fl k) i).i.toNat = true then putT s (ge p.es k).b.toNat (gp (gf p.fl k) i).o.toNat (gp (gf p.fl k) i).o.toNat else s
def enteredT (p : Pb) (k j : Nat) : Tm → Tm := up j fun a => enteredR p k a (gf p.fl k).length
def throughT (c m d e j : Nat) : Tm → Tm := up j fun a s => if s.1 c a d = true then putT s m a e else s
def retM (p : Pb) (k i j m : Nat) : Tm → Tm := up m fun m s => if s.1 (ge p.es k).a.toNat (gp (gf p.fl i) j).o.toNat (gp (gf p.fl k) m).i.toNat = true then throughT (ge p.es i).a.toNat (ge p.es k).b.toNat (gp (gf p.fl i) j).i.toNat (gp (gf p.fl k) m).o.toNat p.F.toNat s else s
def retJ (p : Pb) (k i j : Nat) : Tm → Tm := up j fun j => retM p k i j (gf p.fl k).length
def retC (p : Pb) (k i : Nat) : Prop := (ge p.es i).k = 2 ∧ (ge p.es i).a = (ge p.es k).c ∧ (gn p.ns (ge p.es i).b.toNat).f = (gn p.ns (ge p.es k).a.toNat).f
instance (p : Pb) (k i : Nat) : Decidable (retC p k i) := by unfold retC; infer_instance
def returnedT (p : Pb) (k j : Nat) : Tm → Tm := up j fun i s => if retC p k i then retJ p k i (gf p.fl i).length s else s
def edgeT (p : Pb) (k : Nat) (s : Tm) : Tm :=
 if (ge p.es k).k = 1 ∨ (ge p.es k).k = 5 then passedT p k p.F.toNat s else if (ge p.es k).k = 2 then enteredT p k p.F.toNat s else returnedT p k p.es.length s
def roundE (p : Pb) (j : Nat) : Tm → Tm := up j (edgeT p)
def roundT (p : Pb) (T : Nat → Nat → Nat → Bool) : Tm := roundE p p.es.length (seededT p p.sd.length (T, false))
def Lin (f : Tm → Tm) : Prop := ∀ T m, f (T, m) = ((f (T, false)).1, m || (f (T, false)).2)
theorem Lin.id : Lin fun s => s := fun T m => by simp
theorem Lin.put (n a d : Nat) : Lin fun s => putT s n a d := fun T m => by
 unfold putT
 dsimp only
 split <;> simp
theorem Lin.comp {f g : Tm → Tm} (hf : Lin f) (hg : Lin g) : Lin fun s => f (g s) := fun T m => by
 show f (g (T, m)) = ((f (g (T, false))).1, m || (f (g (T, false))).2)
 rw [hg T m]
 generalize g (T, false) = x
 obtain ⟨x1, x2⟩ := x
 rw [hf x1 x2, hf x1 (m || x2)]
 simp [Bool.or_assoc]
theorem Lin.ite {f : Tm → Tm} (hf : Lin f) (n a d : Nat) : Lin fun s => if s.1 n a d = true then f s else s := fun T m => by
 dsimp only
 split
 ·exact hf T m
 ·simp
theorem Lin.up {f : Nat → Tm → Tm} (hf : ∀ i, Lin (f i)) : ∀ n, Lin (If.up n f)
 | 0 => Lin.id
 | n + 1 => (hf n).comp (Lin.up hf n)
theorem passedR_lin (p : Pb) (k a j : Nat) : Lin (passedR p k a j) := Lin.up (fun _i => (Lin.put _ _ _).ite _ _ _) j
theorem passed_lin (p : Pb) (k j : Nat) : Lin (passedT p k j) := Lin.up (fun i => passedR_lin p k i _) j
theorem enteredR_lin (p : Pb) (k a j : Nat) : Lin (enteredR p k a j) := Lin.up (fun _i => (Lin.put _ _ _).ite _ _ _) j
theorem entered_lin (p : Pb) (k j : Nat) : Lin (enteredT p k j) := Lin.up (fun i => enteredR_lin p k i _) j
theorem through_lin (c m d e j : Nat) : Lin (throughT c m d e j) := Lin.up (fun _i => (Lin.put _ _ _).ite _ _ _) j
theorem retM_lin (p : Pb) (k i j m : Nat) : Lin (retM p k i j m) := Lin.up (fun _ => (through_lin _ _ _ _ _).ite _ _ _) m
theorem retJ_lin (p : Pb) (k i j : Nat) : Lin (retJ p k i j) := Lin.up (fun _ => retM_lin _ _ _ _ _) j
theorem returned_lin (p : Pb) (k j : Nat) : Lin (returnedT p k j) := Lin.up (fun i => by
 by_cases h : retC p k i
 ·simp only [if_pos h]; exact retJ_lin _ _ _ _
 ·simp only [if_neg h]; exact Lin.id) j
structure Rl (p : Pb) (s t : Tm) : Prop where
 le : ∀ n a d, s.1 n a d = true → t.1 n a d = true
 fl : t.2 = false → t = s
 tr : t.2 = true → s.2 = true ∨ ∃ n a d, n < p.ns.length ∧ a < p.F.toNat ∧ d < p.F.toNat ∧ s.1 n a d = false ∧ t.1 n a d = true
theorem Rl.refl (p : Pb) (s : Tm) : Rl p s s := ⟨fun _ _ _ h => h, fun _ => rfl, fun h => .inl h⟩
theorem Rl.trans {p : Pb} {s t u : Tm} (h : Rl p s t) (g : Rl p t u) : Rl p s u := by
 refine ⟨fun n a d x => g.le _ _ _ (h.le _ _ _ x), fun x => ?_, fun x => ?_⟩
 ·have h1 := g.fl x
  rw [h1] at x ⊢
  exact h.fl x
 ·rcases g.tr x with y | ⟨n, a, d, h1, h2, h3, h4, h5⟩
  ·rcases h.tr y with z | ⟨n, a, d, h1, h2, h3, h4, h5⟩
   ·exact .inl z
   ·exact .inr ⟨n, a, d, h1, h2, h3, h4, g.le _ _ _ h5⟩
  ·refine .inr ⟨n, a, d, h1, h2, h3, ?_, h5⟩
   cases hh : s.1 n a d with
   | false => rfl
   | true => rw [h.le _ _ _ hh] at h4; cases h4
theorem Rl.put {p : Pb} {s : Tm} {n a d : Nat} (hn : n < p.ns.length) (ha : a < p.F.toNat) (hd : d < p.F.toNat) : Rl p s (putT s n a d) := by
 unfold putT
 split
 ·exact Rl.refl _ _
 ·rename_i h0
  exact ⟨fun n' a' d' h => (by simp [h]), fun h => (by cases h), fun _ => .inr ⟨n, a, d, hn, ha, hd, by simpa using h0, by simp⟩⟩
theorem Rl.up {p : Pb} {f : Nat → Tm → Tm} {s : Tm} : ∀ n, (∀ i, i < n → ∀ s, Rl p s (f i s)) → Rl p s (If.up n f s)
 | 0, _ => Rl.refl _ _
 | n + 1, h => (Rl.up n (fun i hi => h i (by omega))).trans (h n (by omega) _)
theorem Rl.ite {p : Pb} {s t : Tm} {c : Prop} [Decidable c] (h : c → Rl p s t) : Rl p s (if c then t else s) := by
 split
 ·exact h ‹_›
 ·exact Rl.refl _ _
theorem up_fix {p : Pb} {f : Nat → Tm → Tm} {s : Tm} : ∀ n, (∀ i, i < n → ∀ s, Rl p s (f i s)) → (If.up n f s).2 = false → ∀ i, i < n → f i s = s
 | 0, _, _, i, hi => by omega
 | n + 1, h, hf, i, hi => by
  rw [If.up] at hf
  have h1 := (h n (by omega) (If.up n f s)).fl hf
  rw [h1] at hf
  have h2 := (Rl.up (s := s) n (fun i hi => h i (by omega))).fl hf
  by_cases e : i = n
  ·subst e
   rw [h2] at h1
   exact h1
  ·exact up_fix n (fun i hi => h i (by omega)) hf i (by omega)
theorem put_fix {s : Tm} {n a d : Nat} (hs : s.2 = false) (h : putT s n a d = s) : s.1 n a d = true := by
 unfold putT at h
 split at h
 ·assumption
 ·have : (putT s n a d).2 = true := by unfold putT; rw [if_neg ‹_›]
  unfold putT at this
  rw [if_neg ‹_›] at this
  rw [← h] at hs
  cases hs
theorem through_rl {p : Pb} (s : Tm) {c m d e j : Nat} (hm : m < p.ns.length) (he : e < p.F.toNat) (hj : j ≤ p.F.toNat) : Rl p s (throughT c m d e j s) := Rl.up j fun i hi s => Rl.ite fun _ => Rl.put hm (by omega) he
section
variable {p : Pb} (ho : Ok p)
include ho
theorem pr_rng {k i : Nat} (hk : k < p.es.length) (hi : i < (gf p.fl k).length) : (gp (gf p.fl k) i).i.toNat < p.F.toNat ∧ (gp (gf p.fl k) i).o.toNat < p.F.toNat := by
 have := ho.pair (by rw [ho.len]; exact hk) (gp_mem hi)
 omega
theorem sd_rng {i : Nat} (hi : i < p.sd.length) : (gd p.sd i).n.toNat < p.ns.length ∧ (gd p.sd i).f.toNat < p.F.toNat := by
 have := ho.seed (gd_mem hi)
 omega
theorem ed_rng {k : Nat} (hk : k < p.es.length) : (ge p.es k).a.toNat < p.ns.length ∧ (ge p.es k).b.toNat < p.ns.length := by
 have := ho.edge hk
 omega
theorem f_pos : 0 < p.F.toNat := by have := ho.f1; omega
theorem seeded_rl (s : Tm) {j : Nat} (hj : j ≤ p.sd.length) : Rl p s (seededT p j s) := Rl.up j fun i hi s => Rl.ite fun _ => Rl.put (sd_rng ho (by omega)).1 (f_pos ho) (sd_rng ho (by omega)).2
theorem passedR_rl (s : Tm) {k a j : Nat} (hk : k < p.es.length) (ha : a < p.F.toNat) (hj : j ≤ (gf p.fl k).length) : Rl p s (passedR p k a j s) := Rl.up j fun i hi s => Rl.ite fun _ => Rl.put (ed_rng ho hk).2 ha (pr_rng ho hk (by omega)).2
theorem passed_rl (s : Tm) {k j : Nat} (hk : k < p.es.length) (hj : j ≤ p.F.toNat) : Rl p s (passedT p k j s) := Rl.up j fun i hi s => passedR_rl ho s hk (by omega) (Nat.le_refl _)
theorem enteredR_rl (s : Tm) {k a j : Nat} (hk : k < p.es.length) (hj : j ≤ (gf p.fl k).length) : Rl p s (enteredR p k a j s) := Rl.up j fun i hi s => Rl.ite fun _ => Rl.put (ed_rng ho hk).2 (pr_rng ho hk (by omega)).2 (pr_rng ho hk (by omega)).2
theorem entered_rl (s : Tm) {k j : Nat} (hk : k < p.es.length) : Rl p s (enteredT p k j s) := Rl.up j fun _i _hi s => enteredR_rl ho s hk (Nat.le_refl _)
theorem retM_rl (s : Tm) {k i j m : Nat} (hk : k < p.es.length) (hm : m ≤ (gf p.fl k).length) : Rl p s (retM p k i j m s) := Rl.up m fun x hx s => Rl.ite fun _ => through_rl s (ed_rng ho hk).2 (pr_rng ho hk (by omega)).2 (Nat.le_refl _)
theorem retJ_rl (s : Tm) {k i j : Nat} (hk : k < p.es.length) : Rl p s (retJ p k i j s) := Rl.up j fun _x _hx s => retM_rl ho s hk (Nat.le_refl _)
theorem returned_rl (s : Tm) {k j : Nat} (hk : k < p.es.length) : Rl p s (returnedT p k j s) := Rl.up j fun _x _hx s => Rl.ite fun _ => retJ_rl ho s hk
theorem edge_rl (s : Tm) {k : Nat} (hk : k < p.es.length) : Rl p s (edgeT p k s) := by
 unfold edgeT
 split
 ·exact passed_rl ho s hk (Nat.le_refl _)
 ·split
  ·exact entered_rl ho s hk
  ·exact returned_rl ho s hk
theorem roundE_rl (s : Tm) {j : Nat} (hj : j ≤ p.es.length) : Rl p s (roundE p j s) := Rl.up j fun i hi s => edge_rl ho s (by omega)
theorem round_rl (T : Nat → Nat → Nat → Bool) : Rl p (T, false) (roundT p T) := (seeded_rl ho _ (Nat.le_refl _)).trans (roundE_rl ho _ (Nat.le_refl _))
end
def SndT (p : Pb) (s : Tm) : Prop := ∀ n a d, s.1 n a d = true → PE p a n d
theorem SndT.put {p : Pb} {s : Tm} (h : SndT p s) {n a d : Nat} (hp : PE p a n d) : SndT p (putT s n a d) := by
 unfold putT
 split
 ·exact h
 ·intro n' a' d' h'
  simp at h'
  rcases h' with h' | ⟨rfl, rfl, rfl⟩
  ·exact h _ _ _ h'
  ·exact hp
theorem SndT.up {p : Pb} {f : Nat → Tm → Tm} {s : Tm} (hs : SndT p s) : ∀ n, (∀ i, i < n → ∀ s, SndT p s → SndT p (f i s)) → SndT p (If.up n f s)
 | 0, _ => hs
 | n + 1, h => h n (by omega) _ (SndT.up hs n (fun i hi => h i (by omega)))
theorem SndT.ite {p : Pb} {s t : Tm} {c : Prop} [Decidable c] (hs : SndT p s) (h : c → SndT p t) : SndT p (if c then t else s) := by
 split
 ·exact h ‹_›
 ·exact hs
theorem round_snd {p : Pb} (ho : Ok p) {T : Nat → Nat → Nat → Bool} (h : SndT p (T, false)) : SndT p (roundT p T) := by
 refine SndT.up (SndT.up h _ fun i hi s hs => SndT.ite hs fun hc => hs.put ?_) _ fun k hk s hs => ?_
 ·have := ho.seed (gd_mem hi)
  exact .seed (hs _ _ _ hc) (gd_mem hi)
 ·unfold edgeT
  split
  ·rename_i h1
   exact SndT.up hs _ fun a ha s hs => SndT.up hs _ fun i hi s hs => SndT.ite hs fun hc => hs.put (.flow hk h1 (gp_mem hi) (hs _ _ _ hc))
  ·split
   ·rename_i h1
    exact SndT.up hs _ fun a ha s hs => SndT.up hs _ fun i hi s hs => SndT.ite hs fun hc => hs.put (.call hk h1 (gp_mem hi) (hs _ _ _ hc))
   ·rename_i h1 h2
    have h3 := ho.edge hk
    refine SndT.up hs _ fun i hi s hs => SndT.ite hs fun hc => SndT.up hs _ fun j hj s hs => SndT.up hs _ fun m hm s hs => SndT.ite hs fun hd => SndT.up (p := p) (s := s) hs _ fun a ha t ht => SndT.ite ht fun he => ht.put ?_
    exact .ret hi hc.1 (gp_mem hj) hk (by omega) (gp_mem hm) hc.2.1 hc.2.2 (ht _ _ _ he) (hs _ _ _ hd)
theorem round_clo {p : Pb} (ho : Ok p) {T : Nat → Nat → Nat → Bool} (hm : T p.mn.toNat 0 0 = true) (hs : SndT p (T, false)) (h : (roundT p T).2 = false) : Clo p fun a n d => T n a d = true := by
 have e0 : roundT p T = (T, false) := (round_rl ho T).fl h
 have h1 : (seededT p p.sd.length (T, false)).2 = false := by
  have := (roundE_rl ho (seededT p p.sd.length (T, false)) (Nat.le_refl _)).fl h
  unfold roundT at h
  rw [this] at h
  exact h
 have e1 : seededT p p.sd.length (T, false) = (T, false) := (seeded_rl ho _ (Nat.le_refl _)).fl h1
 have h2 : (roundE p p.es.length (T, false)).2 = false := by
  unfold roundT at h
  rw [e1] at h
  exact h
 have hE : ∀ k, k < p.es.length → edgeT p k (T, false) = (T, false) := up_fix _ (fun k hk s => edge_rl ho s hk) h2
 have rng : ∀ n a d, T n a d = true → a < p.F.toNat ∧ d < p.F.toNat := fun n a d hh => by
  have := (hs n a d hh).rng ho
  omega
 refine ⟨hm, fun x hx ht => ?_, fun k hk hk2 q hq a ht => ?_, fun k hk hk2 q hq a ht => ?_, ?_⟩
 ·obtain ⟨i, hi, rfl⟩ := mem_gd hx
  have := up_fix _ (fun i hi s => Rl.ite fun _ => Rl.put (sd_rng ho hi).1 (f_pos ho) (sd_rng ho hi).2) h1 i hi
  rw [if_pos ht] at this
  exact put_fix rfl this
 ·obtain ⟨i, hi, rfl⟩ := mem_gp hq
  have h3 := hE k hk
  unfold edgeT at h3
  rw [if_pos hk2] at h3
  have h4 := up_fix _ (fun i hi s => passedR_rl ho s hk hi (Nat.le_refl _)) (show (passedT p k p.F.toNat (T, false)).2 = false by rw [h3]) a (rng _ _ _ ht).1
  have h5 := up_fix _ (fun i hi s => Rl.ite fun _ => Rl.put (ed_rng ho hk).2 (rng _ _ _ ht).1 (pr_rng ho hk hi).2) (show (passedR p k a (gf p.fl k).length (T, false)).2 = false by rw [h4]) i hi
  rw [if_pos ht] at h5
  exact put_fix rfl h5
 ·obtain ⟨i, hi, rfl⟩ := mem_gp hq
  have h3 := hE k hk
  unfold edgeT at h3
  rw [if_neg (by omega), if_pos hk2] at h3
  have h4 := up_fix _ (fun i hi s => enteredR_rl ho s hk (Nat.le_refl _)) (show (enteredT p k p.F.toNat (T, false)).2 = false by rw [h3]) a (rng _ _ _ ht).1
  have h5 := up_fix _ (fun i hi s => Rl.ite fun _ => Rl.put (ed_rng ho hk).2 (pr_rng ho hk hi).2 (pr_rng ho hk hi).2) (show (enteredR p k a (gf p.fl k).length (T, false)).2 = false by rw [h4]) i hi
  rw [if_pos ht] at h5
  exact put_fix rfl h5
 ·intro c hc hc2 q hq r hr hr2 t ht' e1 e2 a ht hd
  obtain ⟨j, hj, rfl⟩ := mem_gp hq
  obtain ⟨m, hm', rfl⟩ := mem_gp ht'
  have h3 := hE r hr
  unfold edgeT at h3
  rw [if_neg (by omega), if_neg (by omega)] at h3
  have h4 := up_fix _ (fun i hi s => Rl.ite fun _ => retJ_rl ho s hr) (show (returnedT p r p.es.length (T, false)).2 = false by rw [h3]) c hc
  have hcc : retC p r c := ⟨hc2, e1, e2⟩
  rw [if_pos hcc] at h4
  have h5 := up_fix _ (fun i hi s => retM_rl ho s hr (Nat.le_refl _)) (show (retJ p r c (gf p.fl c).length (T, false)).2 = false by rw [h4]) j hj
  have h6 := up_fix _ (fun i hi s => Rl.ite fun _ => through_rl s (ed_rng ho hr).2 (pr_rng ho hr hi).2 (Nat.le_refl _)) (show (retM p r c j (gf p.fl r).length (T, false)).2 = false by rw [h5]) m hm'
  rw [if_pos hd] at h6
  have h7 := up_fix _ (fun i hi s => Rl.ite fun _ => Rl.put (ed_rng ho hr).2 hi (pr_rng ho hr hm').2) (show (throughT (ge p.es c).a.toNat (ge p.es r).b.toNat (gp (gf p.fl c) j).i.toNat (gp (gf p.fl r) m).o.toNat p.F.toNat (T, false)).2 = false by rw [h6]) a (rng _ _ _ ht).1
  rw [if_pos ht] at h7
  exact put_fix rfl h7
def unhT (p : Pb) (T : Nat → Nat → Nat → Bool) : Nat := (trip p.ns.length p.F.toNat).countP fun x => !T x.1 x.2.1 x.2.2
theorem round_unh {p : Pb} (ho : Ok p) {T : Nat → Nat → Nat → Bool} (h : (roundT p T).2 = true) : unhT p (roundT p T).1 < unhT p T := by
 have hr := round_rl ho T
 rcases hr.tr h with h1 | ⟨n, a, d, h1, h2, h3, h4, h5⟩
 ·cases h1
 ·refine countP_lt (y := (n, a, d)) (fun x hx => ?_) (by simpa using h4) (by simpa using h5) _ (mem_trip.2 ⟨h1, h2, h3⟩)
  simp at hx ⊢
  cases hh : T x.1 x.2.1 x.2.2 with
  | false => rfl
  | true => rw [hr.le _ _ _ hh] at hx; cases hx
end If
end Go.Df
namespace Go.Df
open Go.RowKit
namespace If
open Sp
structure TabM (N F : Nat) (X : List Nat) (bs : Nat → Nat) (r : Nat) (w : World) (T : Nat → Nat → Nat → Bool) : Prop where
 rl : r < w.heap.size
 rX : r ∉ X
 row : ∀ n, n < N → ∃ c, w.cell? ⟨r, n, none⟩ = some (.slice (some ⟨bs n, 0, none⟩) (F * F) c)
 bX : ∀ n, n < N → bs n ∈ X
 lt : ∀ x ∈ X, x < w.heap.size
 cell : ∀ n a d, n < N → a < F → d < F → w.cell? ⟨bs n, a * F + d, none⟩ = some (.bool (T n a d))
 fr : ∀ n i, n < N → w.frozen? ⟨bs n, i, none⟩ = false
 inj : ∀ n n', n < N → n' < N → bs n = bs n' → n = n'
variable {N F : Nat} {X : List Nat} {bs : Nat → Nat} {r : Nat} {w w' : World} {T : Nat → Nat → Nat → Bool}
theorem TabM.kept {Y : List Nat} (h : TabM N F X bs r w T) (hk : Kept Y w w') (hr : r ∉ Y) (hX : ∀ x ∈ X, x ∉ Y) : TabM N F X bs r w' T where
 rl := Nat.lt_of_lt_of_le h.rl hk.size
 rX := h.rX
 row n hn := by
  obtain ⟨c, hc⟩ := h.row n hn
  exact ⟨c, (hk.cell r n h.rl hr).trans hc⟩
 bX := h.bX
 lt x hx := Nat.lt_of_lt_of_le (h.lt x hx) hk.size
 cell n a d hn ha hd := (hk.cell _ _ (h.lt _ (h.bX n hn)) (hX _ (h.bX n hn))).trans (h.cell n a d hn ha hd)
 fr n i hn := (hk.frozen _ _ (h.lt _ (h.bX n hn)) (hX _ (h.bX n hn))).trans (h.fr n i hn)
 inj := h.inj
theorem TabM.kept0 (h : TabM N F X bs r w T) (hk : Kept [] w w') : TabM N F X bs r w' T := h.kept hk (by simp) (by simp)
theorem TabM.later (h : TabM N F X bs r w T) (hb : Below w.heap.size w w') : TabM N F X bs r w' T := h.kept0 ((Kept.refl _ _).call hb)
theorem cell_inj {F a d a' d' : Nat} (hd : d < F) (hd' : d' < F) (h : a * F + d = a' * F + d') : a = a' ∧ d = d' := by
 have h1 : (a * F + d) / F = a := by rw [Nat.mul_comm, Nat.mul_add_div (by omega), Nat.div_eq_of_lt hd, Nat.add_zero]
 have h2 : (a' * F + d') / F = a' := by rw [Nat.mul_comm, Nat.mul_add_div (by omega), Nat.div_eq_of_lt hd', Nat.add_zero]
 have e : a = a' := by rw [← h1, h, h2]
 subst e
 exact ⟨rfl, by omega⟩
theorem cell_lt {F a d : Nat} (ha : a < F) (hd : d < F) : a * F + d < F * F := by
 have : (a + 1) * F ≤ F * F := Nat.mul_le_mul_right F (by omega)
 rw [Nat.add_mul] at this
 omega
theorem TabM.set (h : TabM N F X bs r w T) {n a d : Nat} (hn : n < N) (ha : a < F) (hd : d < F) :
  TabM N F X bs r (w.setCell ⟨bs n, a * F + d, none⟩ (.bool true)) (fun n' a' d' => T n' a' d' || (n' == n && (a' == a && d' == d))) where
 rl := by simpa [World.setCell] using h.rl
 rX := h.rX
 row n' hn' := by
  obtain ⟨c, hc⟩ := h.row n' hn'
  exact ⟨c, (set_other (.inl (fun e => h.rX (by rw [← e]; exact h.bX n hn)))).trans hc⟩
 bX := h.bX
 lt x hx := by simpa [World.setCell] using h.lt x hx
 cell n' a' d' hn' ha' hd' := by
  by_cases e : n' = n
  ·subst e
   by_cases e2 : a * F + d = a' * F + d'
   ·obtain ⟨rfl, rfl⟩ := cell_inj hd hd' e2
    rw [set_same (h.cell n' a d hn' ha hd)]
    simp
   ·rw [set_other (.inr e2), h.cell n' a' d' hn' ha' hd']
    have : (a' == a && d' == d) = false := by
     rw [Bool.eq_false_iff]
     intro h9
     simp at h9
     exact e2 (by rw [h9.1, h9.2])
    simp [this]
  ·rw [set_other (.inl (fun e' => e (h.inj _ _ hn hn' e').symm)), h.cell n' a' d' hn' ha' hd']
   simp [e]
 fr n' i hn' := by simpa using h.fr n' i hn'
 inj := h.inj
def Turns (N F : Nat) (X : List Nat) (bs : Nat → Nat) (r : Nat) (w : World) (s : Tm) (e : Ending) (w' : World) : Prop := e = .returned (.bool s.2) ∧ Kept X w w' ∧ TabM N F X bs r w' s.1
abbrev tabV (N F r c : Nat) : Value := .agg #[.int .i64 (F : Nat), .slice (some ⟨r, 0, none⟩) N c]
end If
end Go.Df
