/- Texts: Cn Aa Aj Ma Mc. -/
import Derived.Test.YtincpmdldpakkaaDoorCi08
import Derived.Test.YtincpmdldpakkaaDoorCi01
import Derived.Maps.Own
import Derived.Maps.OwnSet
import Derived.Maps.Views
import Derived.DeepKeys4
import Derived.MapViews
namespace Go.Df
open Go.RowKit
namespace Iv
open Sp
def tput (T : Nat → Nat → Nat → D) (n a d : Nat) (y : D) : Nat → Nat → Nat → D := fun n' a' d' => if n' = n ∧ a' = a ∧ d' = d then y else T n' a' d'
theorem tput_at (T : Nat → Nat → Nat → D) (n a d : Nat) (y : D) : tput T n a d y n a d = y := by simp [tput]
theorem tput_ne {T : Nat → Nat → Nat → D} {n a d n' a' d' : Nat} (y : D) (h : ¬ (n' = n ∧ a' = a ∧ d' = d)) : tput T n a d y n' a' d' = T n' a' d' := if_neg h
theorem tput_id (T : Nat → Nat → Nat → D) (n a d : Nat) : tput T n a d (T n a d) = T := by
 funext n' a' d'
 unfold tput
 split
 · rename_i h; obtain ⟨rfl, rfl, rfl⟩ := h; rfl
 · rfl
structure Rs (p : Vb) (T T' : Nat → Nat → Nat → D) (b : Bool) : Prop where
 le : ∀ n a d, Iv.le (T' n a d) (T n a d)
 snd : Snd p T → Snd p T'
 same : b = false → T' = T
 less : b = true → muT p T' < muT p T
section
variable {p : Vb} {T T' T'' : Nat → Nat → Nat → D} {b b' : Bool}
theorem muT_le (h : ∀ n a d, Iv.le (T' n a d) (T n a d)) : muT p T' ≤ muT p T := sum_le _ (fun y _ => stp_mono (h y.1 y.2.1 y.2.2))
theorem Rs.refl (p : Vb) (T : Nat → Nat → Nat → D) : Rs p T T false := ⟨fun _ _ _ => le_refl _, fun h => h, fun _ => rfl, fun h => by cases h⟩
theorem Rs.trans (h : Rs p T T' b) (k : Rs p T' T'' b') : Rs p T T'' (b || b') := by
 refine ⟨fun n a d => le_trans (k.le n a d) (h.le n a d), fun hs => k.snd (h.snd hs), fun e => ?_, fun e => ?_⟩
 · rw [Bool.or_eq_false_iff] at e
   exact (k.same e.2).trans (h.same e.1)
 · have h1 := muT_le (p := p) h.le
   have h2 := muT_le (p := p) k.le
   rw [Bool.or_eq_true] at e
   rcases e with e | e
   · have := h.less e; omega
   · have := k.less e; omega
theorem Rs.inc {n a d : Nat} {x : D} (hn : n < p.ns.length) (ha : a < p.F.toNat) (hd : d < p.F.toNat) (hx : ∀ Y, Clo p Y → (∀ n a d, Iv.le (Y n a d) (T n a d)) → Iv.le (Y n a d) x) : Rs p T (tput T n a d (meet (T n a d) x)) (!decide (meet (T n a d) x = T n a d)) := by
 refine ⟨fun n' a' d' => ?_, fun hs Y hY n' a' d' => ?_, fun e => ?_, fun e => ?_⟩
 · unfold tput
   split
   · rename_i h; obtain ⟨rfl, rfl, rfl⟩ := h; exact meet_le_left _ _
   · exact le_refl _
 · unfold tput
   split
   · rename_i h; obtain ⟨rfl, rfl, rfl⟩ := h; exact le_meet (hs Y hY _ _ _) (hx Y hY (hs Y hY))
   · exact hs Y hY _ _ _
 · have h : meet (T n a d) x = T n a d := by simpa using e
   rw [h, tput_id]
 · have h : meet (T n a d) x ≠ T n a d := by simpa using e
   refine sum_lt (y := (n, a, d)) ?_ _ (fun y _ => stp_mono ?_) (mem_trip.2 ⟨hn, ha, hd⟩)
   · show stp (tput T n a d _ n a d) < stp (T n a d)
     rw [tput_at]
     exact stp_meet _ _ h
   · unfold tput
     split
     · rename_i h9; rw [h9.1, h9.2.1, h9.2.2]; exact meet_le_left _ _
     · exact le_refl _
end
def vput (V : Nat → Nat → U) (n a : Nat) (y : U) : Nat → Nat → U := fun n' a' => if n' = n ∧ a' = a then y else V n' a'
theorem vput_at (V : Nat → Nat → U) (n a : Nat) (y : U) : vput V n a y n a = y := by simp [vput]
theorem vput_id (V : Nat → Nat → U) (n a : Nat) : vput V n a (V n a) = V := by
 funext n' a'
 unfold vput
 split
 · rename_i h; obtain ⟨rfl, rfl⟩ := h; rfl
 · rfl
theorem stpV_mono {x y : U} (h : leV x y) : stpV x ≤ stpV y := by
 by_cases e : x = y
 · rw [e]; exact Nat.le_refl _
 · have h1 : meetV y x ≠ y := by rw [h]; exact e
   have h2 := stpV_meet y x h1
   rw [h] at h2
   omega
structure Rv (p : Vb) (T : Nat → Nat → Nat → D) (V V' : Nat → Nat → U) (b : Bool) : Prop where
 le : ∀ n a, leV (V' n a) (V n a)
 snd : VSnd p T V → VSnd p T V'
 same : b = false → V' = V
 less : b = true → muV p V' < muV p V
section
variable {p : Vb} {T : Nat → Nat → Nat → D} {V V' V'' : Nat → Nat → U} {b b' : Bool}
theorem muV_le (h : ∀ n a, leV (V' n a) (V n a)) : muV p V' ≤ muV p V := sum_le _ (fun y _ => stpV_mono (h y.1 y.2))
theorem Rv.refl (p : Vb) (T : Nat → Nat → Nat → D) (V : Nat → Nat → U) : Rv p T V V false := ⟨fun _ _ => leV_refl _, fun h => h, fun _ => rfl, fun h => by cases h⟩
theorem Rv.trans (h : Rv p T V V' b) (k : Rv p T V' V'' b') : Rv p T V V'' (b || b') := by
 refine ⟨fun n a => leV_trans (k.le n a) (h.le n a), fun hs => k.snd (h.snd hs), fun e => ?_, fun e => ?_⟩
 · rw [Bool.or_eq_false_iff] at e
   exact (k.same e.2).trans (h.same e.1)
 · have h1 := muV_le (p := p) h.le
   have h2 := muV_le (p := p) k.le
   rw [Bool.or_eq_true] at e
   rcases e with e | e
   · have := h.less e; omega
   · have := k.less e; omega
theorem Rv.low {n a : Nat} {x : U} (hn : n < p.ns.length) (ha : a < p.F.toNat) (hx : ∀ Y, VClo p T Y → (∀ n a, leV (Y n a) (V n a)) → leV (Y n a) x) : Rv p T V (vput V n a (meetV (V n a) x)) (!decide (meetV (V n a) x = V n a)) := by
 refine ⟨fun n' a' => ?_, fun hs Y hY n' a' => ?_, fun e => ?_, fun e => ?_⟩
 · unfold vput
   split
   · rename_i h; obtain ⟨rfl, rfl⟩ := h; exact meetV_le_left _ _
   · exact leV_refl _
 · unfold vput
   split
   · rename_i h; obtain ⟨rfl, rfl⟩ := h; exact le_meetV (hs Y hY _ _) (hx Y hY (hs Y hY))
   · exact hs Y hY _ _
 · have h : meetV (V n a) x = V n a := by simpa using e
   rw [h, vput_id]
 · have h : meetV (V n a) x ≠ V n a := by simpa using e
   refine sum_lt (y := (n, a)) ?_ _ (fun y _ => stpV_mono ?_) (mem_duo.2 ⟨hn, ha⟩)
   · show stpV (vput V n a _ n a) < stpV (V n a)
     rw [vput_at]
     exact stpV_meet _ _ h
   · unfold vput
     split
     · rename_i h9; rw [h9.1, h9.2]; exact meetV_le_left _ _
     · exact leV_refl _
end
end Iv
end Go.Df
namespace Go.Df
open Go.RowKit
namespace Iv
open Sp
noncomputable def lv (p : Vb) (T : Nat → Nat → Nat → D) (V : Nat → Nat → U) (k : Nat) (q : Xp) : U := app (xd q) (solV p T V (ge p.es k).a.toNat q.i.toNat)
def IsSol (p : Vb) (S : Nat → Nat → U) : Prop := ∃ T V, Clo p T ∧ Snd p T ∧ VClo p T V ∧ VSnd p T V ∧ ∀ n d, n < p.ns.length → d < p.F.toNat → Glb (At p T V n d) (S n d)
theorem IsSol.eq {p : Vb} {S S' : Nat → Nat → U} (h : IsSol p S) (k : IsSol p S') {n d : Nat} (hn : n < p.ns.length) (hd : d < p.F.toNat) : S n d = S' n d := by
 obtain ⟨T, V, c1, s1, v1, w1, g1⟩ := h
 obtain ⟨T', V', c2, s2, v2, w2, g2⟩ := k
 have e : T' = T := by funext n a d; exact clo_eq c2 s2 c1 s1 n a d
 subst e
 have e : V' = V := by funext n a; exact vclo_eq v2 w2 v1 w1 n a
 subst e
 exact (g1 n d hn hd).eq (g2 n d hn hd)
def V0s (p : Vb) : Nat → Nat → U := vput (fun _ _ => topV) p.mn.toNat 0 botV
end Iv
end Go.Df
namespace Go.Df
open Go.RowKit
namespace If
open Sp
theorem Ok.st_flow {p : Pb} (h : Ok p) {k : Nat} (hk : k < p.es.length) (h2 : (ge p.es k).k = 1 ∨ (ge p.es k).k = 5) : stOf p.ns (ge p.es k).b.toNat = stOf p.ns (ge p.es k).a.toNat := by
 have h0 := h.edge hk
 have h1 := h0.2.2.2.2.2.2.2
 unfold fitsB fitsN at h1
 rw [if_pos h2] at h1
 simp at h1
 have ha : (ge p.es k).a.toNat < p.ns.length := by omega
 have hb : (ge p.es k).b.toNat < p.ns.length := by omega
 have hs := h.nd.start ha
 have hl := stOf_le p.ns (ge p.es k).a.toNat
 exact (h.nd.start_iff hb (by omega) hs.2).2 (by rw [hs.1]; exact h1.1.1.1.1)
theorem Ok.st_ret {p : Pb} (h : Ok p) {k : Nat} (hk : k < p.es.length) (h2 : (ge p.es k).k = 3 ∨ (ge p.es k).k = 4) : stOf p.ns (ge p.es k).b.toNat = stOf p.ns (ge p.es k).c.toNat := by
 have h0 := h.edge hk
 have h1 := h0.2.2.2.2.2.2.2
 unfold fitsB fitsN at h1
 rw [if_neg (by omega), if_neg (by omega)] at h1
 split at h1
 · cases h1
 · simp at h1
   have hc := h0.2.2.2.2.2.2.1 (by omega) (by omega)
   have hb : (ge p.es k).b.toNat < p.ns.length := by omega
   have hc' : (ge p.es k).c.toNat < p.ns.length := by omega
   have hs := h.nd.start hc'
   have hl := stOf_le p.ns (ge p.es k).c.toNat
   exact (h.nd.start_iff hb (by omega) hs.2).2 (by rw [hs.1]; exact h1.1.2.symm)
theorem Ok.st_call {p : Pb} (h : Ok p) {k : Nat} (hk : k < p.es.length) (h2 : (ge p.es k).k = 2) : stOf p.ns (ge p.es k).b.toNat = (ge p.es k).b.toNat := by
 have h0 := h.edge hk
 have h1 := (h.call hk h2).1
 have hb : (ge p.es k).b.toNat < p.ns.length := by omega
 exact (h.nd.start_iff hb hb h1).2 rfl
theorem Ok.st_main {p : Pb} (h : Ok p) : stOf p.ns p.mn.toNat = p.mn.toNat := by
 have hm := main_in (sup_parts h.sup).2.2.1
 have hb : p.mn.toNat < p.ns.length := by omega
 exact (h.nd.start_iff hb hb hm.2.2).2 rfl
theorem Ok.zero {p : Pb} (h : Ok p) {k : Nat} (hk : k < p.es.length) : (⟨0, 0⟩ : Pr) ∈ gf p.fl k := by
 have h1 := h.fl k (by rw [h.len]; exact hk)
 have h2 : gp (gf p.fl k) 0 = ⟨0, 0⟩ := h1.2.2.2
 rw [← h2]
 unfold gp
 rw [List.getD_eq_getElem?_getD, List.getElem?_eq_getElem h1.2.2.1]
 exact List.getElem_mem _
theorem PE.zero {p : Pb} (h : Ok p) {a n d : Nat} (hp : PE p a n d) : PE p 0 n 0 := by
 induction hp with
 | main => exact .main
 | seed h1 _ _ => exact h1
 | flow hk h2 _ _ ih => exact .flow (q := ⟨0, 0⟩) hk h2 (h.zero hk) ih
 | call hk h2 _ _ ih => exact .call (q := ⟨0, 0⟩) hk h2 (h.zero hk) ih
 | ret hc h2 _ hr h3 _ e1 e2 _ _ ih1 ih2 => exact .ret (q := ⟨0, 0⟩) (s := ⟨0, 0⟩) hc h2 (h.zero hc) hr h3 (h.zero hr) e1 e2 ih1 ih2
end If
namespace Iv
open Sp
theorem meet_bot (x : D) : meet x bot = bot := Subtype.ext (by
 show Go.Proofs.YtincpmdldpakkaaDoor.Xf.meet x.1 ⟨4, 0, 0⟩ = ⟨4, 0, 0⟩
 rcases Go.Proofs.YtincpmdldpakkaaDoor.Xf.valid_cases x.2.1 with h | ⟨c, h⟩ | ⟨b, h⟩ | ⟨b, c, h⟩ | h <;> rw [h] <;> simp [Go.Proofs.YtincpmdldpakkaaDoor.Xf.meet])
theorem bot_le (x : D) : le bot x := meet_bot x
theorem meetV_bot (v : U) : meetV v botV = botV := Subtype.ext (by
 show Go.Proofs.YtincpmdldpakkaaDoor.Xf.meetV v.1 ⟨2, 0⟩ = ⟨2, 0⟩
 rcases Go.Proofs.YtincpmdldpakkaaDoor.Xf.validV_cases v.2.1 with h | ⟨c, h⟩ | h <;> rw [h] <;> simp [Go.Proofs.YtincpmdldpakkaaDoor.Xf.meetV])
theorem botV_le (v : U) : leV botV v := meetV_bot v
theorem botV_of {v : U} (h : leV v botV) : v = botV := leV_antisymm h (botV_le v)
theorem comp_shift : comp shift shift = shift := by decide +kernel
theorem comp_le_shift {x y : D} (hx : le x shift) (hy : le y shift) : le (comp x y) shift := by
 have h := comp_mono hx hy
 rw [comp_shift] at h
 exact h
theorem pe_of {p : Vb} {T : Nat → Nat → Nat → D} (hT : Snd p T) {n a d : Nat} (h : T n a d ≠ top) : If.PE (pf p) a n d := by
 classical
 refine Classical.byContradiction fun hn => h ?_
 have hc : Clo p (fun n a d => if If.PE (pf p) a n d then bot else top) := by
   refine ⟨?_, fun s hs h0 => ?_, fun k hk h2 q hq a => ?_, fun k hk h2 q hq a h0 _ => ?_, fun c hc h2 q hq r hr h3 u hu e1 e2 a => ?_⟩
   · have h1 : If.PE (pf p) 0 p.mn.toNat 0 := .main
     show le (if If.PE (pf p) 0 p.mn.toNat 0 then bot else top) shift
     rw [if_pos h1]
     exact bot_le _
   · have h1 : If.PE (pf p) 0 s.n.toNat 0 := Classical.byContradiction fun h9 => h0 (if_neg h9)
     have h2 : If.PE (pf p) 0 s.n.toNat s.f.toNat := .seed (p := pf p) (s := ⟨s.n, s.f⟩) h1 (List.mem_map.2 ⟨s, hs, rfl⟩)
     show le (if If.PE (pf p) 0 s.n.toNat s.f.toNat then bot else top) _
     rw [if_pos h2]
     exact bot_le _
   · have hq' : (⟨q.i, q.o⟩ : If.Pr) ∈ If.gf (pf p).fl k := by rw [pf_gf]; exact List.mem_map.2 ⟨q, hq, rfl⟩
     show le (if If.PE (pf p) a (ge p.es k).b.toNat q.o.toNat then bot else top) (comp (if If.PE (pf p) a (ge p.es k).a.toNat q.i.toNat then bot else top) (xd q))
     by_cases h5 : If.PE (pf p) a (ge p.es k).a.toNat q.i.toNat
     · have h6 : If.PE (pf p) a (ge p.es k).b.toNat q.o.toNat := .flow (p := pf p) (q := ⟨q.i, q.o⟩) hk h2 hq' h5
       rw [if_pos h6]
       exact bot_le _
     · rw [if_neg h5, top_comp]
       exact le_top _
   · have hq' : (⟨q.i, q.o⟩ : If.Pr) ∈ If.gf (pf p).fl k := by rw [pf_gf]; exact List.mem_map.2 ⟨q, hq, rfl⟩
     have h5 : If.PE (pf p) a (ge p.es k).a.toNat q.i.toNat := Classical.byContradiction fun h9 => h0 (if_neg h9)
     have h6 : If.PE (pf p) q.o.toNat (ge p.es k).b.toNat q.o.toNat := .call (p := pf p) (q := ⟨q.i, q.o⟩) hk h2 hq' h5
     show le (if If.PE (pf p) q.o.toNat (ge p.es k).b.toNat q.o.toNat then bot else top) shift
     rw [if_pos h6]
     exact bot_le _
   · have hq' : (⟨q.i, q.o⟩ : If.Pr) ∈ If.gf (pf p).fl c := by rw [pf_gf]; exact List.mem_map.2 ⟨q, hq, rfl⟩
     have hu' : (⟨u.i, u.o⟩ : If.Pr) ∈ If.gf (pf p).fl r := by rw [pf_gf]; exact List.mem_map.2 ⟨u, hu, rfl⟩
     show le (if If.PE (pf p) a (ge p.es r).b.toNat u.o.toNat then bot else top) (comp (comp (comp (if If.PE (pf p) a (ge p.es c).a.toNat q.i.toNat then bot else top) (xd q)) (if If.PE (pf p) q.o.toNat (ge p.es r).a.toNat u.i.toNat then bot else top)) (xd u))
     by_cases h5 : If.PE (pf p) a (ge p.es c).a.toNat q.i.toNat
     · by_cases h6 : If.PE (pf p) q.o.toNat (ge p.es r).a.toNat u.i.toNat
       · have h7 : If.PE (pf p) a (ge p.es r).b.toNat u.o.toNat := .ret (p := pf p) (q := ⟨q.i, q.o⟩) (s := ⟨u.i, u.o⟩) hc h2 hq' hr h3 hu' e1 e2 h5 h6
         rw [if_pos h7]
         exact bot_le _
       · rw [if_neg h6, comp_top, top_comp]
         exact le_top _
     · rw [if_neg h5, top_comp, top_comp, top_comp]
       exact le_top _
 have h1 := hT _ hc n a d
 have e : (if If.PE (pf p) a n d then bot else top) = top := if_neg hn
 have h2 : le (if If.PE (pf p) a n d then bot else top) (T n a d) := h1
 rw [e] at h2
 exact top_of_le h2
theorem sol_holds {p : Vb} {S : Nat → Nat → U} (hS : IsSol p S) {n d : Nat} (hn : n < p.ns.length) (hd : d < p.F.toNat) (h : S n d ≠ topV) : ∃ a, If.PE (pf p) a n d := by
 obtain ⟨T, V, c1, s1, v1, w1, g1⟩ := hS
 refine Classical.byContradiction fun hno => h ((g1 n d hn hd).eq ⟨fun u hu => ?_, fun z _ => leV_top z⟩)
 obtain ⟨a, rfl⟩ := hu
 have h1 : T n a d = top := Classical.byContradiction fun h9 => hno ⟨a, pe_of s1 h9⟩
 rw [h1, top_app]
 exact leV_refl _
def Plain (p : Vb) : Prop := ∀ k, k < p.es.length → ∀ q ∈ gl p.fl k, xd q = shift
theorem plain_of {p : Vb} (ho : VOk p) (hpl : Plain p) {T : Nat → Nat → Nat → D} {V : Nat → Nat → U} (hT : Clo p T) (hV : VClo p T V) (hsd : ∀ s ∈ p.sd, s.k = 2) {a n d : Nat} (h : If.PE (pf p) a n d) : le (T n a d) shift ∧ V (If.stOf p.ns n) a = botV := by
 have hp := ho.pf
 have mem : ∀ {k : Nat} {q : If.Pr}, q ∈ If.gf (pf p).fl k → ∃ x ∈ gl p.fl k, x.i = q.i ∧ x.o = q.o := fun {k q} hq => by
   rw [pf_gf] at hq
   obtain ⟨x, hx, rfl⟩ := List.mem_map.1 hq
   exact ⟨x, hx, rfl, rfl⟩
 induction h with
 | main => exact ⟨hT.main, by rw [show If.stOf p.ns (pf p).mn.toNat = p.mn.toNat from hp.st_main]; exact botV_of hV.main⟩
 | @seed s h1 hs ih =>
   obtain ⟨x, hx, rfl⟩ := List.mem_map.1 hs
   refine ⟨?_, ih.2⟩
   have h2 := hT.seed x hx (fun h0 => by
     have h9 := ih.1
     have e : T x.n.toNat 0 0 = top := h0
     rw [e] at h9
     exact absurd (top_of_le h9) shift_ne)
   have h3 : sx x = bot := by unfold sx; rw [if_neg (by rw [hsd x hx]; decide), if_pos (hsd x hx)]
   rw [h3] at h2
   exact le_trans h2 (bot_le _)
 | @flow a k q hk h2 hq _ ih =>
   obtain ⟨x, hx, e1, e2⟩ := mem hq
   refine ⟨?_, ?_⟩
   · have h1 := hT.flow k hk h2 x hx a
     rw [hpl k hk x hx, e1, e2] at h1
     exact le_trans h1 (comp_le_shift ih.1 (le_refl _))
   · rw [show If.stOf p.ns (ge (pf p).es k).b.toNat = If.stOf p.ns (ge p.es k).a.toNat from hp.st_flow hk h2]
     exact ih.2
 | @call a k q hk h2 hq _ ih =>
   obtain ⟨x, hx, e1, e2⟩ := mem hq
   refine ⟨?_, ?_⟩
   · have h1 := hT.call k hk h2 x hx a (fun h0 => ?_) (by rw [hpl k hk x hx]; decide)
     · rw [e2] at h1; exact h1
     · have h9 := ih.1
       rw [e1] at h0
       have e : T (ge (pf p).es k).a.toNat a q.i.toNat = top := h0
       rw [e] at h9
       exact absurd (top_of_le h9) shift_ne
   · rw [show If.stOf p.ns (ge (pf p).es k).b.toNat = (ge p.es k).b.toNat from hp.st_call hk h2]
     have h1 := hV.call k hk h2 x hx a
     rw [hpl k hk x hx, e1, e2] at h1
     have e : V (If.stOf p.ns (ge p.es k).a.toNat) a = botV := ih.2
     have h2 : leV (app (comp (T (ge p.es k).a.toNat a q.i.toNat) shift) (V (If.stOf p.ns (ge p.es k).a.toNat) a)) botV := by
       rw [e]
       have h5 := app_mono (comp_le_shift ih.1 (le_refl shift)) (leV_refl botV)
       rw [shift_app] at h5
       exact h5
     exact botV_of (leV_trans h1 h2)
 | @ret a c r q s hc h2 hq hr h3 hs e1 e2 _ _ ih1 ih2 =>
   obtain ⟨x, hx, f1, f2⟩ := mem hq
   obtain ⟨y, hy, f3, f4⟩ := mem hs
   refine ⟨?_, ?_⟩
   · have h1 := hT.ret c hc h2 x hx r hr h3 y hy e1 e2 a
     rw [hpl c hc x hx, hpl r hr y hy, f1, f2, f3, f4] at h1
     exact le_trans h1 (comp_le_shift (comp_le_shift (comp_le_shift ih1.1 (le_refl _)) ih2.1) (le_refl _))
   · rw [show If.stOf p.ns (ge (pf p).es r).b.toNat = If.stOf p.ns (ge p.es r).c.toNat from hp.st_ret hr h3]
     have e1' : (ge p.es c).a = (ge p.es r).c := e1
     rw [← e1']
     exact ih1.2
theorem sol_plain {p : Vb} (ho : VOk p) (hpl : Plain p) (hsd : ∀ s ∈ p.sd, s.k = 2) {S : Nat → Nat → U} (hS : IsSol p S) {n d : Nat} (hn : n < p.ns.length) (hd : d < p.F.toNat) : ((∃ a, If.PE (pf p) a n d) → S n d = botV) ∧ ((¬ ∃ a, If.PE (pf p) a n d) → S n d = topV) := by
 refine ⟨fun ⟨a, h⟩ => ?_, fun h => Classical.byContradiction fun h9 => h (sol_holds hS hn hd h9)⟩
 obtain ⟨T, V, c1, s1, v1, w1, g1⟩ := hS
 have h1 := plain_of ho hpl c1 v1 hsd h
 refine botV_of (leV_trans ((g1 n d hn hd).1 _ ⟨a, rfl⟩) ?_)
 rw [h1.2]
 have h5 := app_mono h1.1 (leV_refl botV)
 rw [shift_app] at h5
 exact h5
end Iv
end Go.Df
namespace Go.Df
open Go.RowKit Go.Maps Go.ChangeMaps
def MapV (P : Program) (k e : TypeId) (z : Lit) (w : World) (b n : Nat) (f : Value → Lit) : Prop :=
 ∃ D : DataW Unit, w.ownsMap P k (plainElem P e) b n D ∧ ∀ key kl, keyOf P k key = some kl → D.atKey kl (.lit z) = .lit (f key)
theorem MapV.made (P : Program) (k e : TypeId) (z : Lit) (w : World) (b : Nat) (hb : b = w.heap.size) : MapV P k e z (w.alloc (.map #[] 0)) b 0 (fun _ => z) := by
 subst hb
 exact ⟨_, World.ownsMap_made w P k _, fun _ _ _ => rfl⟩
theorem MapV.mono {P : Program} {k e : TypeId} {z : Lit} {w : World} {b n n' : Nat} {f : Value → Lit} (h : MapV P k e z w b n f) (hn : n ≤ n') : MapV P k e z w b n' f :=
 let ⟨D, h1, h2⟩ := h; ⟨D, h1.mono hn, h2⟩
theorem MapV.lt {P : Program} {k e : TypeId} {z : Lit} {w : World} {b n : Nat} {f : Value → Lit} (h : MapV P k e z w b n f) : b < w.heap.size :=
 let ⟨_, h1, _⟩ := h; h1.lt
theorem MapV.ext {P : Program} {k e : TypeId} {z : Lit} {w : World} {b n : Nat} {f g : Value → Lit} (h : MapV P k e z w b n f) (hg : ∀ key kl, keyOf P k key = some kl → f key = g key) : MapV P k e z w b n g :=
 let ⟨D, h1, h2⟩ := h; ⟨D, h1, fun key kl hk => by rw [h2 key kl hk, hg key kl hk]⟩
theorem MapV.kept {P : Program} {k e : TypeId} {z : Lit} {w w' : World} {b n : Nat} {f : Value → Lit} {X : List Nat} (h : MapV P k e z w b n f) (hk : Kept X w w') (hX : b ∉ X) : MapV P k e z w' b n f := by
 have hlt := h.lt
 obtain ⟨D, ⟨es, clock, h1, h2⟩, h3⟩ := h
 exact ⟨D, ⟨es, clock, (hk.block b hlt hX).trans h1, h2⟩, h3⟩
theorem MapV.look_int {P : Program} {k e t : TypeId} {w : World} {b n : Nat} {f : Value → Lit} (h : MapV P k e (.int .i64 0) w b n f) (K : Keyed P k) (ht : P.underlying t = some (.map k e)) (he : P.underlying e = some (.int .i64)) (hz : (zeroValue e).run P w = .ok (.int .i64 0) w)
   {key : Value} {kl : Lit} (hkey : keyOf P k key = some kl) {c : Int} (hc : f key = .int .i64 c) : (Instr.lookup t (.map (some b)) key false).run P w = .ok (.int .i64 c) w := by
 obtain ⟨D, h1, h2⟩ := h
 obtain ⟨c', hrun, hat, -⟩ := h1.lookup_int K ht he hz hkey
 have h3 := h2 key kl hkey
 rw [hat, hc] at h3
 cases h3
 exact hrun
theorem plainElem_bool_inv {P : Program} {e : TypeId} (he : P.underlying e = some .bool) {v : Value} {z : DataW Unit × List MemPlace} (h : plainElem P e v = some z) : ∃ a, v = .bool a ∧ z = (.lit (.bool a), []) := by
 unfold plainElem at h
 rw [he] at h
 split at h
 · cases h; exact ⟨_, rfl, rfl⟩
 all_goals simp_all
theorem MapV.look_bool {P : Program} {k e t : TypeId} {w : World} {b n : Nat} {f : Value → Lit} (h : MapV P k e (.bool false) w b n f) (K : Keyed P k) (ht : P.underlying t = some (.map k e)) (he : P.underlying e = some .bool) (hz : (zeroValue e).run P w = .ok (.bool false) w)
   {key : Value} {kl : Lit} (hkey : keyOf P k key = some kl) {c : Bool} (hc : f key = .bool c) : (Instr.lookup t (.map (some b)) key false).run P w = .ok (.bool c) w := by
 obtain ⟨D, h1, h2⟩ := h
 obtain ⟨v, ps, hrun, hv⟩ := h1.lookup K ht hz (plainElem_bool he false) hkey
 obtain ⟨a, rfl, ha⟩ := plainElem_bool_inv he hv
 have h3 := h2 key kl hkey
 simp only [Prod.mk.injEq] at ha
 rw [ha.1, hc] at h3
 cases h3
 exact hrun
theorem MapV.store {P : Program} {k e t : TypeId} {z : Lit} {w : World} {b n : Nat} {f : Value → Lit} (h : MapV P k e z w b n f) (K : Keyed P k) (ht : P.underlying t = some (.map k e)) (hn : n < maxLen)
   {key val : Value} {kl d : Lit} (hkey : keyOf P k key = some kl) (hval : plainElem (H := Unit) P e val = some (.lit d, [])) (g : Value → Lit) (g1 : g key = d) (g2 : ∀ x, x ≠ key → g x = f x) :
   ∃ w', (Instr.mapUpdate t (.map (some b)) key val).run P w = .ok () w' ∧ MapV P k e z w' b (n + 1) g ∧ Kept [b] w w' := by
 obtain ⟨D, h1, h2⟩ := h
 have hm := h1.isMap
 obtain ⟨w', hrun, h3, hg⟩ := h1.update K ht hn hkey hval
 refine ⟨w', hrun, ⟨_, h3, fun key' kl' hk' => ?_⟩, ⟨hg.1, hg.2, hg.3, hg.4, fun j hj hx => hg.5 j hj (by simp at hx; intro hh; exact hx (by simpa using hh))⟩⟩
 by_cases hkk : key' = key
 · subst hkk
   obtain rfl : kl' = kl := by rw [hkey] at hk'; exact (Option.some.inj hk').symm
   rw [atKey_put_same hm (K.key hkey), g1]
 · have hne : kl' ≠ kl := fun hh => hkk (K.inj (by rw [← hh]; exact hk') hkey)
   rw [atKey_put_other hne, g2 _ hkk]
   exact h2 key' kl' hk'
theorem wpList_store_map {P : Program} (w : World) {ops : Array Oper} {rest : List Oper} {o : Oper} {a : Act} {Q : Exit → Act → World → Prop}
   (hg : o.guard = none) (m x v : Operand) (t : TypeId) (hop : o.op = Op.mapUpdate t m x v)
   (k e : TypeId) (K : Keyed P k) (ht : P.underlying t = some (.map k e)) (z : Lit) (b n : Nat) (f : Value → Lit)
   (hm : a.eval m = .map (some b)) (hown : MapV P k e z w b n f) (hn : n < maxLen) (key val : Value) (kl d : Lit) (hx : a.eval x = key) (hv : a.eval v = val) (hkey : keyOf P k key = some kl)
   (hval : plainElem (H := Unit) P e val = some (.lit d, [])) (g : Value → Lit) (g1 : g key = d) (g2 : ∀ x, x ≠ key → g x = f x)
   (hK : ∀ w', MapV P k e z w' b (n + 1) g → Kept [b] w w' → wpList P ops Q rest (a.put o.dst undef) w') :
   wpList P ops Q (o :: rest) a w := by
 refine wpList_plain hg fun K' hK' => ?_
 obtain ⟨w', hrun, r1, r2⟩ := hown.store K ht hn hkey hval g g1 g2
 unfold Oper.wp
 simp [execOp, hop, hm, hx, hv, hrun, Result.andThen]
 exact hK' _ _ (hK w' r1 r2)
theorem wpList_look_int {P : Program} (w : World) {ops : Array Oper} {rest : List Oper} {o : Oper} {a : Act} {Q : Exit → Act → World → Prop}
   (hg : o.guard = none) (m x : Operand) (t : TypeId) (hop : o.op = Op.lookup t m x false)
   (k e : TypeId) (K : Keyed P k) (ht : P.underlying t = some (.map k e)) (he : P.underlying e = some (.int .i64)) (hz : (zeroValue e).run P w = .ok (.int .i64 0) w) (b n : Nat) (f : Value → Lit)
   (hm : a.eval m = .map (some b)) (hown : MapV P k e (.int .i64 0) w b n f) (key : Value) (kl : Lit) (hx : a.eval x = key) (hkey : keyOf P k key = some kl) (c : Int) (hc : f key = .int .i64 c)
   (hK : wpList P ops Q rest (a.put o.dst (.int .i64 c)) w) : wpList P ops Q (o :: rest) a w := by
 refine wpList_plain hg fun K' hK' => ?_
 have hrun := hown.look_int K ht he hz hkey hc
 unfold Oper.wp
 simp [execOp, hop, hm, hx, hrun, Result.andThen]
 exact hK' _ _ hK
def fieldsOf (P : Program) (k : TypeId) : List (String × TypeId × Nat) := match P.underlying k with | some (.struct fs) => fs.toList.map (fun f => (f.name, f.type, f.offset)) | _ => []
theorem fieldsOf_struct {P : Program} {k : TypeId} {l : List (String × TypeId × Nat)} (h : fieldsOf P k = l) (hl : l ≠ []) : ∃ fs, P.underlying k = some (.struct fs) ∧ fs.toList.map (fun f => (f.name, f.type, f.offset)) = l := by
 unfold fieldsOf at h
 cases hu : P.underlying k with
 | none => rw [hu] at h; exact absurd h.symm hl
 | some d =>
   rw [hu] at h
   cases d with
   | struct fs => exact ⟨fs, rfl, h⟩
   | _ => exact absurd h.symm hl
theorem keyed_struct {P : Program} {k : TypeId} {l : List (String × TypeId × Nat)} (hl : laidOutB P = true) (hrow : k < P.types.size) (hk : P.keyTypeAt 2 k = true) (h : fieldsOf P k = l) (hne : l ≠ []) : Keyed P k := by
 obtain ⟨fs, hu, -⟩ := fieldsOf_struct h hne
 exact Keyed.of_law (deep_law_laid hl (m := 2) (by omega) hrow hk (by rw [hu]))
theorem keyOf_two {P : Program} {k e : TypeId} {x y : String} (h : fieldsOf P k = [(x, e, 0), (y, e, 1)]) (hx : x ≠ "_") (hy : y ≠ "_") (hd : P.keyType k = true) (hrow : k < P.types.size) (hc : P.cellsOf k = 2) (he : P.underlying e = some (.int .i64)) (hce : P.cellsOf e = 1)
   (a b : Int) (ha : (Lit.int .i64 a).wf = true) (hb : (Lit.int .i64 b).wf = true) : ∃ kl, keyOf P k (.agg #[.int .i64 a, .int .i64 b]) = some kl := by
 obtain ⟨fs, hu, hf⟩ := fieldsOf_struct h (by simp)
 obtain ⟨m, hm⟩ : ∃ m, P.types.size = m + 1 := Nat.exists_eq_succ_of_ne_zero (Nat.ne_of_gt (Nat.lt_of_le_of_lt (Nat.zero_le (k : Nat)) hrow))
 have hfo : (Value.agg #[.int .i64 a, .int .i64 b]).formed P k = true := by
   unfold Value.formed
   rw [hu, hc]
   rfl
 have hl : fs.toList.length = 2 := by simpa using congrArg List.length hf
 obtain ⟨fl⟩ := fs
 match fl, hl, hf with
 | [f0, f1], _, hf =>
   simp only [List.map_cons, List.map_nil, List.cons.injEq, Prod.mk.injEq, and_true] at hf
   obtain ⟨⟨n0, t0, o0⟩, n1, t1, o1⟩ := hf
   unfold keyOf
   rw [hu]
   simp only [hd, hfo, Bool.and_self, if_true]
   rw [hm]
   simp [Program.keyLits, hu, hc, n0, n1, t0, t1, o0, o1, hce, he, ha, hb, Value.cells, hx, hy]
end Go.Df
namespace Go.Df
open Go.RowKit Go.Maps Go.ChangeMaps
def tokElem (v : Value) : Option (DataW Value × List MemPlace) := some (.held v, [])
def Reads (P : Program) (k : TypeId) (z : Value) (D : DataW Value) (f : Value → Value) : Prop :=
 ∀ key kl, keyOf P k key = some kl → D.atKey kl (.held z) = .held (f key) ∧ ((∀ zd, D.atKey kl zd = .held (f key)) → f key ≠ z)
def MapT (P : Program) (k : TypeId) (z : Value) (w : World) (b n : Nat) (f : Value → Value) : Prop :=
 ∃ D : DataW Value, w.ownsMap P k tokElem b n D ∧ Reads P k z D f
theorem Reads.two {P : Program} {k : TypeId} {z : Value} {D : DataW Value} {f g : Value → Value} (h : Reads P k z D f) (hg : ∀ key, f key = g key) : Reads P k z D g := by
 have e : f = g := funext hg
 subst e
 exact h
theorem MapT.made (P : Program) (k : TypeId) (z : Value) (w : World) (b : Nat) (hb : b = w.heap.size) : MapT P k z (w.alloc (.map #[] 0)) b 0 (fun _ => z) := by
 subst hb
 refine ⟨_, World.ownsMap_made w P k _, fun _ _ _ => ⟨rfl, fun h => ?_⟩⟩
 have h9 := h (.lit (.bool true))
 cases h9
theorem MapT.mono {P : Program} {k : TypeId} {z : Value} {w : World} {b n n' : Nat} {f : Value → Value} (h : MapT P k z w b n f) (hn : n ≤ n') : MapT P k z w b n' f :=
 let ⟨D, h1, h2⟩ := h; ⟨D, h1.mono hn, h2⟩
theorem MapT.lt {P : Program} {k : TypeId} {z : Value} {w : World} {b n : Nat} {f : Value → Value} (h : MapT P k z w b n f) : b < w.heap.size :=
 let ⟨_, h1, _⟩ := h; h1.lt
theorem MapT.obj {P : Program} {k : TypeId} {z : Value} {w : World} {b n : Nat} {f : Value → Value} (h : MapT P k z w b n f) : ∃ es clock, w.heap[b]? = some (.map es clock) :=
 let ⟨_, ⟨es, clock, h1, _⟩, _⟩ := h; ⟨es, clock, h1⟩
theorem MapT.ext {P : Program} {k : TypeId} {z : Value} {w : World} {b n : Nat} {f g : Value → Value} (h : MapT P k z w b n f) (hg : ∀ key, f key = g key) : MapT P k z w b n g :=
 let ⟨D, h1, h2⟩ := h; ⟨D, h1, h2.two hg⟩
theorem MapT.same {P : Program} {k : TypeId} {z : Value} {w w' : World} {b n : Nat} {f : Value → Value} (h : MapT P k z w b n f) (hk : w'.heap[b]? = w.heap[b]?) : MapT P k z w' b n f := by
 obtain ⟨D, ⟨es, clock, h1, h2⟩, h3⟩ := h
 exact ⟨D, ⟨es, clock, hk.trans h1, h2⟩, h3⟩
theorem MapT.kept {P : Program} {k : TypeId} {z : Value} {w w' : World} {b n : Nat} {f : Value → Value} {X : List Nat} (h : MapT P k z w b n f) (hk : Kept X w w') (hX : b ∉ X) : MapT P k z w' b n f :=
 h.same (hk.block b h.lt hX)
theorem MapT.look {P : Program} {k e t : TypeId} {z : Value} {w : World} {b n : Nat} {f : Value → Value} (h : MapT P k z w b n f) (K : Keyed P k) (ht : P.underlying t = some (.map k e)) (hz : (zeroValue e).run P w = .ok z w)
   {key : Value} {kl : Lit} (hkey : keyOf P k key = some kl) : (Instr.lookup t (.map (some b)) key false).run P w = .ok (f key) w := by
 obtain ⟨D, h1, h2⟩ := h
 obtain ⟨v, ps, hrun, hv⟩ := h1.lookup K ht hz (zd := .held z) (zp := []) rfl hkey
 rw [(h2 key kl hkey).1] at hv
 unfold tokElem at hv
 injection hv with hv
 injection hv with hv _
 injection hv with hv
 rw [hrun, hv]
theorem MapT.store {P : Program} {k e t : TypeId} {z : Value} {w : World} {b n : Nat} {f : Value → Value} (h : MapT P k z w b n f) (K : Keyed P k) (ht : P.underlying t = some (.map k e)) (hn : n < maxLen)
   {key val : Value} {kl : Lit} (hkey : keyOf P k key = some kl) (g : Value → Value) (g1 : g key = val) (g2 : ∀ x, x ≠ key → g x = f x) (hz : val ≠ z) :
   ∃ w', (Instr.mapUpdate t (.map (some b)) key val).run P w = .ok () w' ∧ MapT P k z w' b (n + 1) g ∧ Kept [b] w w' := by
 obtain ⟨D, h1, h2⟩ := h
 have hm := h1.isMap
 obtain ⟨w', hrun, h3, hg⟩ := h1.update K ht hn hkey (d := .held val) (ps := []) rfl
 refine ⟨w', hrun, ⟨_, h3, fun key' kl' hk' => ?_⟩, ⟨hg.1, hg.2, hg.3, hg.4, fun j hj hx => hg.5 j hj (by simp at hx; intro hh; exact hx (by simpa using hh))⟩⟩
 by_cases hkk : key' = key
 · subst hkk
   obtain rfl : kl' = kl := by rw [hkey] at hk'; exact (Option.some.inj hk').symm
   exact ⟨by rw [atKey_put_same hm (K.key hkey), g1], fun _ => by rw [g1]; exact hz⟩
 · have hne : kl' ≠ kl := fun hh => hkk (K.inj (by rw [← hh]; exact hk') hkey)
   refine ⟨by rw [atKey_put_other hne, g2 _ hkk]; exact (h2 key' kl' hk').1, fun h => ?_⟩
   rw [g2 _ hkk] at h ⊢
   exact (h2 key' kl' hk').2 (fun zd => by rw [← h zd, atKey_put_other hne])
theorem keptWide {X Y : List Nat} {w w' : World} (h : Kept X w w') (hx : ∀ x ∈ X, x ∈ Y) : Kept Y w w' := ⟨h.os, h.tape, h.output, h.size, fun k hk hn => h.block k hk (fun hm => hn (hx k hm))⟩
def Tag (w : World) (b : Nat) (t : TypeId) : Prop := ∃ cur, w.heap[b]? = some (.cells cur t (0, 0))
theorem Tag.lt {w : World} {b : Nat} {t : TypeId} (h : Tag w b t) : b < w.heap.size := by
 obtain ⟨cur, h⟩ := h
 exact (Array.getElem?_eq_some_iff.1 h).1
theorem Tag.same {w w' : World} {b : Nat} {t : TypeId} (h : Tag w b t) (hk : w'.heap[b]? = w.heap[b]?) : Tag w' b t := let ⟨cur, h⟩ := h; ⟨cur, hk.trans h⟩
theorem Tag.new (w : World) (cur : Array Value) (t : TypeId) (b : Nat) (hb : b = w.heap.size) : Tag (w.alloc (.cells cur t)) b t := by
 subst hb
 exact ⟨cur, heap_alloc_new w _⟩
theorem Tag.frozen {w : World} {b : Nat} {t : TypeId} (h : Tag w b t) (i : Nat) : w.frozen? ⟨b, i, none⟩ = false := by
 obtain ⟨cur, h⟩ := h
 simp [World.frozen?, h]
theorem Tag.set {w : World} {b : Nat} {t : TypeId} (h : Tag w b t) (x i : Nat) (v : Value) : Tag (w.setCell ⟨x, i, none⟩ v) b t := by
 obtain ⟨cur, h⟩ := h
 by_cases e : b = x
 · subst e
   unfold Tag World.setCell
   simp only [Array.getElem?_modify]
   simp [h]
 · exact ⟨cur, (RowKit.Below.heap_setCell _ _ _ _ e).trans h⟩
theorem Tag.ne_map {w : World} {b x : Nat} {t : TypeId} (h : Tag w b t) (hx : ∃ es clock, w.heap[x]? = some (.map es clock)) : b ≠ x := by
 rintro rfl
 obtain ⟨cur, h⟩ := h
 obtain ⟨es, clock, hx⟩ := hx
 rw [h] at hx
 cases hx
theorem Tag.ne {w : World} {b x : Nat} {t u : TypeId} (h : Tag w b t) (hx : Tag w x u) (hn : t ≠ u) : b ≠ x := by
 rintro rfl
 obtain ⟨cur, h⟩ := h
 obtain ⟨cur', hx⟩ := hx
 rw [h] at hx
 injection hx with hx
 injection hx with _ hx _
 exact hn hx
theorem own_tag {w : World} {base : Nat} {e : TypeId} {size : Nat} {v : Value} {n : Nat} {xs : List Value} (h : w.ownsRow base e size v n xs) {g : Nat} (hg : v.ownBlock = some g) : Tag w g e := by
 rcases h.2 with ⟨rfl, _⟩ | ⟨g', cap, cur, rfl, _, h1, _⟩
 · cases hg
 · injection hg with hg
   subst hg
   exact ⟨cur, h1⟩
structure Kb (TS : List TypeId) (base : Nat) (w w' : World) : Prop where
 os : w'.os = w.os
 tape : w'.tape = w.tape
 output : w'.output = w.output
 size : w.heap.size ≤ w'.heap.size
 low : ∀ k, k < w.heap.size → k < base → w'.heap[k]? = w.heap[k]?
 tag : ∀ k t, Tag w k t → t ∉ TS → w'.heap[k]? = w.heap[k]?
theorem Kb.refl (TS : List TypeId) (base : Nat) (w : World) : Kb TS base w w := ⟨rfl, rfl, rfl, Nat.le_refl _, fun _ _ _ => rfl, fun _ _ _ _ => rfl⟩
theorem Kb.trans {TS : List TypeId} {base : Nat} {w w' w'' : World} (h : Kb TS base w w') (k : Kb TS base w' w'') : Kb TS base w w'' :=
 ⟨k.os.trans h.os, k.tape.trans h.tape, k.output.trans h.output, Nat.le_trans h.size k.size, fun x hx hb => (k.low x (Nat.lt_of_lt_of_le hx h.size) hb).trans (h.low x hx hb),
   fun x t ht hn => (k.tag x t (ht.same (h.tag x t ht hn)) hn).trans (h.tag x t ht hn)⟩
theorem Kb.of_kept {TS : List TypeId} {base : Nat} {X : List Nat} {w w' : World} (h : Kept X w w') (hX : ∀ x ∈ X, base ≤ x ∧ ∀ t, Tag w x t → t ∈ TS) : Kb TS base w w' :=
 ⟨h.os, h.tape, h.output, h.size, fun k hk hb => h.block k hk (fun hm => by have := (hX k hm).1; omega), fun k t ht hn => h.block k ht.lt (fun hm => hn ((hX k hm).2 t ht))⟩
theorem Kb.of_same {TS : List TypeId} {base : Nat} {w w' : World} (h : Kept [] w w') : Kb TS base w w' := Kb.of_kept h (by simp)
theorem Kb.below {TS : List TypeId} {base : Nat} {w w' : World} (h : Kb TS base w w') (hb : base ≤ w.heap.size) : Below base w w' :=
 ⟨h.os, h.tape, h.output, h.size, fun k hk => h.low k (by omega) hk⟩
theorem Kb.call {TS : List TypeId} {base : Nat} {w w' w'' : World} (h : Kb TS base w w') (hb : Below w'.heap.size w' w'') : Kb TS base w w'' := h.trans (Kb.of_same ((Kept.refl _ _).call hb))
structure Tb (P : Program) (k tM : TypeId) (z : Value) (w : World) (r N : Nat) (m : Nat → Option Nat) (c : Nat → Nat) (v : Nat → Value → Value) : Prop where
 row : ∃ cur, w.heap[r]? = some (.cells cur tM (0, 0)) ∧ cur.size = N ∧ ∀ n, n < N → cur[n]? = some (.map (m n))
 is : ∀ n b, n < N → m n = some b → MapT P k z w b (c n) (v n)
 no : ∀ n, n < N → m n = none → ∀ a, v n a = z
 inj : ∀ n n' b, n < N → n' < N → m n = some b → m n' = some b → n = n'
variable {P : Program} {k tM : TypeId} {z : Value} {w : World} {r N : Nat} {m : Nat → Option Nat} {c : Nat → Nat} {v : Nat → Value → Value}
theorem Tb.rtag (h : Tb P k tM z w r N m c v) : Tag w r tM := let ⟨cur, h1, _⟩ := h.row; ⟨cur, h1⟩
theorem Tb.cell (h : Tb P k tM z w r N m c v) {n : Nat} (hn : n < N) : w.cell? ⟨r, n, none⟩ = some (.map (m n)) := by
 obtain ⟨cur, h1, _, h3⟩ := h.row
 simp [World.cell?, h1, h3 n hn]
theorem Tb.kept {X : List Nat} {w' : World} (h : Tb P k tM z w r N m c v) (hk : Kept X w w') (hr : r ∉ X) (hm : ∀ n b, n < N → m n = some b → b ∉ X) : Tb P k tM z w' r N m c v := by
 obtain ⟨cur, h1, h2, h3⟩ := h.row
 exact ⟨⟨cur, (hk.block r h.rtag.lt hr).trans h1, h2, h3⟩, fun n b hn hb => (h.is n b hn hb).kept hk (hm n b hn hb), h.no, h.inj⟩
theorem Tb.ext (h : Tb P k tM z w r N m c v) {v' : Nat → Value → Value} (hv : ∀ n a, v n a = v' n a) : Tb P k tM z w r N m c v' := by
 have : v = v' := funext fun n => funext fun a => hv n a
 subst this
 exact h
open Classical in
noncomputable def updV (v : Nat → Value → Value) (n : Nat) (key x : Value) : Nat → Value → Value := fun n' key' => if n' = n ∧ key' = key then x else v n' key'
theorem Tb.stored {w' : World} {n b : Nat} {key x : Value} (h : Tb P k tM z w r N m c v) (hn : n < N) (hb : m n = some b) (hk : Kept [b] w w') (hm : MapT P k z w' b (c n + 1) (updV v n key x n)) :
   Tb P k tM z w' r N m (fun i => if i = n then c n + 1 else c i) (updV v n key x) := by
 obtain ⟨cur, h1, h2, h3⟩ := h.row
 have hne : r ≠ b := h.rtag.ne_map (h.is n b hn hb).obj
 refine ⟨⟨cur, (hk.block r h.rtag.lt (by simpa using hne)).trans h1, h2, h3⟩, fun i b' hi hb' => ?_, fun i hi hi' a => ?_, h.inj⟩
 · by_cases e : i = n
   · subst e
     obtain rfl : b' = b := by rw [hb] at hb'; exact (Option.some.inj hb').symm
     simpa using hm
   · have h4 := (h.is i b' hi hb').kept hk (by intro hm'; simp at hm'; subst hm'; exact e (h.inj i n b' hi hn hb' hb))
     simp only [if_neg e]
     refine h4.ext fun a => ?_
     simp [updV, e]
 · have e : i ≠ n := by rintro rfl; rw [hb] at hi'; cases hi'
   simp only [updV]
   rw [if_neg (fun hh => e hh.1)]
   exact h.no i hi hi' a
theorem Tb.fresh {n b : Nat} (h : Tb P k tM z w r N m c v) (hn : n < N) (hm : m n = none) (hb : b = w.heap.size) :
   Tb P k tM z ((w.alloc (.map #[] 0)).setCell ⟨r, n, none⟩ (.map (some b))) r N (fun i => if i = n then some b else m i) c v := by
 subst hb
 obtain ⟨cur, h1, h2, h3⟩ := h.row
 have hr := h.rtag.lt
 have h1' : (w.alloc (.map #[] 0)).heap[r]? = some (.cells cur tM (0, 0)) := (((Kept.refl [] w).alloc _).block r hr (by simp)).trans h1
 have hrow : ((w.alloc (.map #[] 0)).setCell ⟨r, n, none⟩ (.map (some w.heap.size))).heap[r]? = some (.cells (cur.setIfInBounds n (.map (some w.heap.size))) tM (0, 0)) := by
   unfold World.setCell
   simp only [Array.getElem?_modify]
   simp [h1']
 have hkx : Kept [r] (w.alloc (.map #[] 0)) ((w.alloc (.map #[] 0)).setCell ⟨r, n, none⟩ (.map (some w.heap.size))) := (Kept.refl _ _).set _ _ _ (.inl (by simp))
 refine ⟨⟨_, hrow, by simpa using h2, fun i hi => ?_⟩, fun i b' hi hb' => ?_, fun i hi hi' => ?_, fun i j b' hi hj hbi hbj => ?_⟩
 · by_cases e : i = n
   · subst e
     simp [h2, hi]
   · rw [Array.getElem?_setIfInBounds_ne (Ne.symm e), h3 i hi, if_neg e]
 · by_cases e : i = n
   · subst e
     rw [if_pos rfl] at hb'
     injection hb' with hb'
     subst hb'
     have h5 : MapT P k z (w.alloc (.map #[] 0)) w.heap.size (c i) (v i) := ((MapT.made P k z w _ rfl).mono (Nat.zero_le _)).ext fun a => (h.no i hi hm a).symm
     exact h5.kept hkx (by simp; omega)
   · rw [if_neg e] at hb'
     have h4 := (h.is i b' hi hb').kept ((Kept.refl [] w).alloc (.map #[] 0)) (by simp)
     have h5 : b' ≠ r := (h.rtag.ne_map (h.is i b' hi hb').obj).symm
     exact h4.kept hkx (by simpa using h5)
 · by_cases e : i = n
   · subst e; rw [if_pos rfl] at hi'; cases hi'
   · rw [if_neg e] at hi'
     exact h.no i hi hi'
 · by_cases e : i = n
   · by_cases e' : j = n
     · omega
     · subst e
       rw [if_pos rfl] at hbi
       rw [if_neg e'] at hbj
       injection hbi with hbi
       have := (h.is j b' hj hbj).lt
       omega
   · rw [if_neg e] at hbi
     by_cases e' : j = n
     · subst e'
       rw [if_pos rfl] at hbj
       injection hbj with hbj
       have := (h.is i b' hi hbi).lt
       omega
     · rw [if_neg e'] at hbj
       exact h.inj i j b' hi hj hbi hbj
end Go.Df
