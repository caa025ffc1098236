/- Texts: Ie Ka Kdz Jdz Ko Ta. -/
import Derived.Test.YtincpmdldpakkaaDoorCi32
import Derived.Test.YtincpmdldpakkaaDoorCi02
import Derived.Test.YtincpmdldpakkaaDoorCi12
import Derived.Test.YtincpmdldpakkaaDoorCi11
import Derived.Test.YtincpmdldpakkaaDoorCi07
import Derived.Test.YtincpmdldpakkaaDoorCi25
namespace Go.Df
open Go.RowKit
namespace If
open Sp
abbrev Tm := (Nat → Nat → Nat → Bool) × Bool
def putT (s : Tm) (n a d : Nat) : Tm := if s.1 n a d = true then s else (fun n' a' d' => s.1 n' a' d' || (n' == n && (a' == a && d' == d)), true)
def up : Nat → (Nat → Tm → Tm) → Tm → Tm
 | 0, _, s => s
 | i + 1, f, s => f i (up i f s)
def seededT (p : Pb) (j : Nat) : Tm → Tm := up j fun i s => if s.1 (gd p.sd i).n.toNat 0 0 = true then putT s (gd p.sd i).n.toNat 0 (gd p.sd i).f.toNat else s
def passedR (p : Pb) (k a j : Nat) : Tm → Tm := up j fun i s => if s.1 (ge p.es k).a.toNat a (gp (gf p.fl k) i).i.toNat = true then putT s (ge p.es k).b.toNat a (gp (gf p.fl k) i).o.toNat else s
def passedT (p : Pb) (k j : Nat) : Tm → Tm := up j fun a => passedR p k a (gf p.fl k).length
def enteredR (p : Pb) (k a j : Nat) : Tm → Tm := up j fun i s => if s.1 (ge p.es k).a.toNat a (gp (gf p.fl k) i).i.toNat = true then putT s (ge p.es k).b.toNat (gp (gf p.fl k) i).o.toNat (gp (gf p.fl k) i).o.toNat else s
def enteredT (p : Pb) (k j : Nat) : Tm → Tm := up j fun a => enteredR p k a (gf p.fl k).length
def throughT (c m d e j : Nat) : Tm → Tm := up j fun a s => if s.1 c a d = true then putT s m a e else s
def retM (p : Pb) (k i j m : Nat) : Tm → Tm := up m fun m s => if s.1 (ge p.es k).a.toNat (gp (gf p.fl i) j).o.toNat (gp (gf p.fl k) m).i.toNat = true then throughT (ge p.es i).a.toNat (ge p.es k).b.toNat (gp (gf p.fl i) j).i.toNat (gp (gf p.fl k) m).o.toNat p.F.toNat s else s
def retJ (p : Pb) (k i j : Nat) : Tm → Tm := up j fun j => retM p k i j (gf p.fl k).length
def retC (p : Pb) (k i : Nat) : Prop := (ge p.es i).k = 2 ∧ (ge p.es i).a = (ge p.es k).c ∧ (gn p.ns (ge p.es i).b.toNat).f = (gn p.ns (ge p.es k).a.toNat).f
instance (p : Pb) (k i : Nat) : Decidable (retC p k i) := by unfold retC; infer_instance
def returnedT (p : Pb) (k j : Nat) : Tm → Tm := up j fun i s => if retC p k i then retJ p k i (gf p.fl i).length s else s
def edgeT (p : Pb) (k : Nat) (s : Tm) : Tm :=
 if (ge p.es k).k = 1 ∨ (ge p.es k).k = 5 then passedT p k p.F.toNat s else if (ge p.es k).k = 2 then enteredT p k p.F.toNat s else returnedT p k p.es.length s
def roundE (p : Pb) (j : Nat) : Tm → Tm := up j (edgeT p)
def roundT (p : Pb) (T : Nat → Nat → Nat → Bool) : Tm := roundE p p.es.length (seededT p p.sd.length (T, false))
def Lin (f : Tm → Tm) : Prop := ∀ T m, f (T, m) = ((f (T, false)).1, m || (f (T, false)).2)
theorem Lin.id : Lin fun s => s := fun T m => by simp
theorem Lin.put (n a d : Nat) : Lin fun s => putT s n a d := fun T m => by
 unfold putT
 dsimp only
 split <;> simp
theorem Lin.comp {f g : Tm → Tm} (hf : Lin f) (hg : Lin g) : Lin fun s => f (g s) := fun T m => by
 show f (g (T, m)) = ((f (g (T, false))).1, m || (f (g (T, false))).2)
 rw [hg T m]
 generalize g (T, false) = x
 obtain ⟨x1, x2⟩ := x
 rw [hf x1 x2, hf x1 (m || x2)]
 simp [Bool.or_assoc]
theorem Lin.ite {f : Tm → Tm} (hf : Lin f) (n a d : Nat) : Lin fun s => if s.1 n a d = true then f s else s := fun T m => by
 dsimp only
 split
 · exact hf T m
 · simp
theorem Lin.up {f : Nat → Tm → Tm} (hf : ∀ i, Lin (f i)) : ∀ n, Lin (If.up n f)
 | 0 => Lin.id
 | n + 1 => (hf n).comp (Lin.up hf n)
theorem passedR_lin (p : Pb) (k a j : Nat) : Lin (passedR p k a j) := Lin.up (fun _i => (Lin.put _ _ _).ite _ _ _) j
theorem passed_lin (p : Pb) (k j : Nat) : Lin (passedT p k j) := Lin.up (fun i => passedR_lin p k i _) j
theorem enteredR_lin (p : Pb) (k a j : Nat) : Lin (enteredR p k a j) := Lin.up (fun _i => (Lin.put _ _ _).ite _ _ _) j
theorem entered_lin (p : Pb) (k j : Nat) : Lin (enteredT p k j) := Lin.up (fun i => enteredR_lin p k i _) j
theorem through_lin (c m d e j : Nat) : Lin (throughT c m d e j) := Lin.up (fun _i => (Lin.put _ _ _).ite _ _ _) j
theorem retM_lin (p : Pb) (k i j m : Nat) : Lin (retM p k i j m) := Lin.up (fun _ => (through_lin _ _ _ _ _).ite _ _ _) m
theorem retJ_lin (p : Pb) (k i j : Nat) : Lin (retJ p k i j) := Lin.up (fun _ => retM_lin _ _ _ _ _) j
theorem returned_lin (p : Pb) (k j : Nat) : Lin (returnedT p k j) := Lin.up (fun i => by
 by_cases h : retC p k i
 · simp only [if_pos h]; exact retJ_lin _ _ _ _
 · simp only [if_neg h]; exact Lin.id) j
structure Rl (p : Pb) (s t : Tm) : Prop where
 le : ∀ n a d, s.1 n a d = true → t.1 n a d = true
 fl : t.2 = false → t = s
 tr : t.2 = true → s.2 = true ∨ ∃ n a d, n < p.ns.length ∧ a < p.F.toNat ∧ d < p.F.toNat ∧ s.1 n a d = false ∧ t.1 n a d = true
theorem Rl.refl (p : Pb) (s : Tm) : Rl p s s := ⟨fun _ _ _ h => h, fun _ => rfl, fun h => .inl h⟩
theorem Rl.trans {p : Pb} {s t u : Tm} (h : Rl p s t) (g : Rl p t u) : Rl p s u := by
 refine ⟨fun n a d x => g.le _ _ _ (h.le _ _ _ x), fun x => ?_, fun x => ?_⟩
 · have h1 := g.fl x
   rw [h1] at x ⊢
   exact h.fl x
 · rcases g.tr x with y | ⟨n, a, d, h1, h2, h3, h4, h5⟩
   · rcases h.tr y with z | ⟨n, a, d, h1, h2, h3, h4, h5⟩
     · exact .inl z
     · exact .inr ⟨n, a, d, h1, h2, h3, h4, g.le _ _ _ h5⟩
   · refine .inr ⟨n, a, d, h1, h2, h3, ?_, h5⟩
     cases hh : s.1 n a d with
     | false => rfl
     | true => rw [h.le _ _ _ hh] at h4; cases h4
theorem Rl.put {p : Pb} {s : Tm} {n a d : Nat} (hn : n < p.ns.length) (ha : a < p.F.toNat) (hd : d < p.F.toNat) : Rl p s (putT s n a d) := by
 unfold putT
 split
 · exact Rl.refl _ _
 · rename_i h0
   exact ⟨fun n' a' d' h => (by simp [h]), fun h => (by cases h), fun _ => .inr ⟨n, a, d, hn, ha, hd, by simpa using h0, by simp⟩⟩
theorem Rl.up {p : Pb} {f : Nat → Tm → Tm} {s : Tm} : ∀ n, (∀ i, i < n → ∀ s, Rl p s (f i s)) → Rl p s (If.up n f s)
 | 0, _ => Rl.refl _ _
 | n + 1, h => (Rl.up n (fun i hi => h i (by omega))).trans (h n (by omega) _)
theorem Rl.ite {p : Pb} {s t : Tm} {c : Prop} [Decidable c] (h : c → Rl p s t) : Rl p s (if c then t else s) := by
 split
 · exact h ‹_›
 · exact Rl.refl _ _
theorem up_fix {p : Pb} {f : Nat → Tm → Tm} {s : Tm} : ∀ n, (∀ i, i < n → ∀ s, Rl p s (f i s)) → (If.up n f s).2 = false → ∀ i, i < n → f i s = s
 | 0, _, _, i, hi => by omega
 | n + 1, h, hf, i, hi => by
   rw [If.up] at hf
   have h1 := (h n (by omega) (If.up n f s)).fl hf
   rw [h1] at hf
   have h2 := (Rl.up (s := s) n (fun i hi => h i (by omega))).fl hf
   by_cases e : i = n
   · subst e
     rw [h2] at h1
     exact h1
   · exact up_fix n (fun i hi => h i (by omega)) hf i (by omega)
theorem put_fix {s : Tm} {n a d : Nat} (hs : s.2 = false) (h : putT s n a d = s) : s.1 n a d = true := by
 unfold putT at h
 split at h
 · assumption
 · have : (putT s n a d).2 = true := by unfold putT; rw [if_neg ‹_›]
   unfold putT at this
   rw [if_neg ‹_›] at this
   rw [← h] at hs
   cases hs
theorem through_rl {p : Pb} (s : Tm) {c m d e j : Nat} (hm : m < p.ns.length) (he : e < p.F.toNat) (hj : j ≤ p.F.toNat) : Rl p s (throughT c m d e j s) := Rl.up j fun i hi s => Rl.ite fun _ => Rl.put hm (by omega) he
section
variable {p : Pb} (ho : Ok p)
include ho
theorem pr_rng {k i : Nat} (hk : k < p.es.length) (hi : i < (gf p.fl k).length) : (gp (gf p.fl k) i).i.toNat < p.F.toNat ∧ (gp (gf p.fl k) i).o.toNat < p.F.toNat := by
 have := ho.pair (by rw [ho.len]; exact hk) (gp_mem hi)
 omega
theorem sd_rng {i : Nat} (hi : i < p.sd.length) : (gd p.sd i).n.toNat < p.ns.length ∧ (gd p.sd i).f.toNat < p.F.toNat := by
 have := ho.seed (gd_mem hi)
 omega
theorem ed_rng {k : Nat} (hk : k < p.es.length) : (ge p.es k).a.toNat < p.ns.length ∧ (ge p.es k).b.toNat < p.ns.length := by
 have := ho.edge hk
 omega
theorem f_pos : 0 < p.F.toNat := by have := ho.f1; omega
theorem seeded_rl (s : Tm) {j : Nat} (hj : j ≤ p.sd.length) : Rl p s (seededT p j s) := Rl.up j fun i hi s => Rl.ite fun _ => Rl.put (sd_rng ho (by omega)).1 (f_pos ho) (sd_rng ho (by omega)).2
theorem passedR_rl (s : Tm) {k a j : Nat} (hk : k < p.es.length) (ha : a < p.F.toNat) (hj : j ≤ (gf p.fl k).length) : Rl p s (passedR p k a j s) := Rl.up j fun i hi s => Rl.ite fun _ => Rl.put (ed_rng ho hk).2 ha (pr_rng ho hk (by omega)).2
theorem passed_rl (s : Tm) {k j : Nat} (hk : k < p.es.length) (hj : j ≤ p.F.toNat) : Rl p s (passedT p k j s) := Rl.up j fun i hi s => passedR_rl ho s hk (by omega) (Nat.le_refl _)
theorem enteredR_rl (s : Tm) {k a j : Nat} (hk : k < p.es.length) (hj : j ≤ (gf p.fl k).length) : Rl p s (enteredR p k a j s) := Rl.up j fun i hi s => Rl.ite fun _ => Rl.put (ed_rng ho hk).2 (pr_rng ho hk (by omega)).2 (pr_rng ho hk (by omega)).2
theorem entered_rl (s : Tm) {k j : Nat} (hk : k < p.es.length) : Rl p s (enteredT p k j s) := Rl.up j fun _i _hi s => enteredR_rl ho s hk (Nat.le_refl _)
theorem retM_rl (s : Tm) {k i j m : Nat} (hk : k < p.es.length) (hm : m ≤ (gf p.fl k).length) : Rl p s (retM p k i j m s) := Rl.up m fun x hx s => Rl.ite fun _ => through_rl s (ed_rng ho hk).2 (pr_rng ho hk (by omega)).2 (Nat.le_refl _)
theorem retJ_rl (s : Tm) {k i j : Nat} (hk : k < p.es.length) : Rl p s (retJ p k i j s) := Rl.up j fun _x _hx s => retM_rl ho s hk (Nat.le_refl _)
theorem returned_rl (s : Tm) {k j : Nat} (hk : k < p.es.length) : Rl p s (returnedT p k j s) := Rl.up j fun _x _hx s => Rl.ite fun _ => retJ_rl ho s hk
theorem edge_rl (s : Tm) {k : Nat} (hk : k < p.es.length) : Rl p s (edgeT p k s) := by
 unfold edgeT
 split
 · exact passed_rl ho s hk (Nat.le_refl _)
 · split
   · exact entered_rl ho s hk
   · exact returned_rl ho s hk
theorem roundE_rl (s : Tm) {j : Nat} (hj : j ≤ p.es.length) : Rl p s (roundE p j s) := Rl.up j fun i hi s => edge_rl ho s (by omega)
theorem round_rl (T : Nat → Nat → Nat → Bool) : Rl p (T, false) (roundT p T) := (seeded_rl ho _ (Nat.le_refl _)).trans (roundE_rl ho _ (Nat.le_refl _))
end
def SndT (p : Pb) (s : Tm) : Prop := ∀ n a d, s.1 n a d = true → PE p a n d
theorem SndT.put {p : Pb} {s : Tm} (h : SndT p s) {n a d : Nat} (hp : PE p a n d) : SndT p (putT s n a d) := by
 unfold putT
 split
 · exact h
 · intro n' a' d' h'
   simp at h'
   rcases h' with h' | ⟨rfl, rfl, rfl⟩
   · exact h _ _ _ h'
   · exact hp
theorem SndT.up {p : Pb} {f : Nat → Tm → Tm} {s : Tm} (hs : SndT p s) : ∀ n, (∀ i, i < n → ∀ s, SndT p s → SndT p (f i s)) → SndT p (If.up n f s)
 | 0, _ => hs
 | n + 1, h => h n (by omega) _ (SndT.up hs n (fun i hi => h i (by omega)))
theorem SndT.ite {p : Pb} {s t : Tm} {c : Prop} [Decidable c] (hs : SndT p s) (h : c → SndT p t) : SndT p (if c then t else s) := by
 split
 · exact h ‹_›
 · exact hs
theorem round_snd {p : Pb} (ho : Ok p) {T : Nat → Nat → Nat → Bool} (h : SndT p (T, false)) : SndT p (roundT p T) := by
 refine SndT.up (SndT.up h _ fun i hi s hs => SndT.ite hs fun hc => hs.put ?_) _ fun k hk s hs => ?_
 · have := ho.seed (gd_mem hi)
   exact .seed (hs _ _ _ hc) (gd_mem hi)
 · unfold edgeT
   split
   · rename_i h1
     exact SndT.up hs _ fun a ha s hs => SndT.up hs _ fun i hi s hs => SndT.ite hs fun hc => hs.put (.flow hk h1 (gp_mem hi) (hs _ _ _ hc))
   · split
     · rename_i h1
       exact SndT.up hs _ fun a ha s hs => SndT.up hs _ fun i hi s hs => SndT.ite hs fun hc => hs.put (.call hk h1 (gp_mem hi) (hs _ _ _ hc))
     · rename_i h1 h2
       have h3 := ho.edge hk
       refine SndT.up hs _ fun i hi s hs => SndT.ite hs fun hc => SndT.up hs _ fun j hj s hs => SndT.up hs _ fun m hm s hs => SndT.ite hs fun hd => SndT.up (p := p) (s := s) hs _ fun a ha t ht => SndT.ite ht fun he => ht.put ?_
       exact .ret hi hc.1 (gp_mem hj) hk (by omega) (gp_mem hm) hc.2.1 hc.2.2 (ht _ _ _ he) (hs _ _ _ hd)
theorem round_clo {p : Pb} (ho : Ok p) {T : Nat → Nat → Nat → Bool} (hm : T p.mn.toNat 0 0 = true) (hs : SndT p (T, false)) (h : (roundT p T).2 = false) : Clo p fun a n d => T n a d = true := by
 have e0 : roundT p T = (T, false) := (round_rl ho T).fl h
 have h1 : (seededT p p.sd.length (T, false)).2 = false := by
   have := (roundE_rl ho (seededT p p.sd.length (T, false)) (Nat.le_refl _)).fl h
   unfold roundT at h
   rw [this] at h
   exact h
 have e1 : seededT p p.sd.length (T, false) = (T, false) := (seeded_rl ho _ (Nat.le_refl _)).fl h1
 have h2 : (roundE p p.es.length (T, false)).2 = false := by
   unfold roundT at h
   rw [e1] at h
   exact h
 have hE : ∀ k, k < p.es.length → edgeT p k (T, false) = (T, false) := up_fix _ (fun k hk s => edge_rl ho s hk) h2
 have rng : ∀ n a d, T n a d = true → a < p.F.toNat ∧ d < p.F.toNat := fun n a d hh => by
   have := (hs n a d hh).rng ho
   omega
 refine ⟨hm, fun x hx ht => ?_, fun k hk hk2 q hq a ht => ?_, fun k hk hk2 q hq a ht => ?_, ?_⟩
 · obtain ⟨i, hi, rfl⟩ := mem_gd hx
   have := up_fix _ (fun i hi s => Rl.ite fun _ => Rl.put (sd_rng ho hi).1 (f_pos ho) (sd_rng ho hi).2) h1 i hi
   rw [if_pos ht] at this
   exact put_fix rfl this
 · obtain ⟨i, hi, rfl⟩ := mem_gp hq
   have h3 := hE k hk
   unfold edgeT at h3
   rw [if_pos hk2] at h3
   have h4 := up_fix _ (fun i hi s => passedR_rl ho s hk hi (Nat.le_refl _)) (show (passedT p k p.F.toNat (T, false)).2 = false by rw [h3]) a (rng _ _ _ ht).1
   have h5 := up_fix _ (fun i hi s => Rl.ite fun _ => Rl.put (ed_rng ho hk).2 (rng _ _ _ ht).1 (pr_rng ho hk hi).2) (show (passedR p k a (gf p.fl k).length (T, false)).2 = false by rw [h4]) i hi
   rw [if_pos ht] at h5
   exact put_fix rfl h5
 · obtain ⟨i, hi, rfl⟩ := mem_gp hq
   have h3 := hE k hk
   unfold edgeT at h3
   rw [if_neg (by omega), if_pos hk2] at h3
   have h4 := up_fix _ (fun i hi s => enteredR_rl ho s hk (Nat.le_refl _)) (show (enteredT p k p.F.toNat (T, false)).2 = false by rw [h3]) a (rng _ _ _ ht).1
   have h5 := up_fix _ (fun i hi s => Rl.ite fun _ => Rl.put (ed_rng ho hk).2 (pr_rng ho hk hi).2 (pr_rng ho hk hi).2) (show (enteredR p k a (gf p.fl k).length (T, false)).2 = false by rw [h4]) i hi
   rw [if_pos ht] at h5
   exact put_fix rfl h5
 · intro c hc hc2 q hq r hr hr2 t ht' e1 e2 a ht hd
   obtain ⟨j, hj, rfl⟩ := mem_gp hq
   obtain ⟨m, hm', rfl⟩ := mem_gp ht'
   have h3 := hE r hr
   unfold edgeT at h3
   rw [if_neg (by omega), if_neg (by omega)] at h3
   have h4 := up_fix _ (fun i hi s => Rl.ite fun _ => retJ_rl ho s hr) (show (returnedT p r p.es.length (T, false)).2 = false by rw [h3]) c hc
   have hcc : retC p r c := ⟨hc2, e1, e2⟩
   rw [if_pos hcc] at h4
   have h5 := up_fix _ (fun i hi s => retM_rl ho s hr (Nat.le_refl _)) (show (retJ p r c (gf p.fl c).length (T, false)).2 = false by rw [h4]) j hj
   have h6 := up_fix _ (fun i hi s => Rl.ite fun _ => through_rl s (ed_rng ho hr).2 (pr_rng ho hr hi).2 (Nat.le_refl _)) (show (retM p r c j (gf p.fl r).length (T, false)).2 = false by rw [h5]) m hm'
   rw [if_pos hd] at h6
   have h7 := up_fix _ (fun i hi s => Rl.ite fun _ => Rl.put (ed_rng ho hr).2 hi (pr_rng ho hr hm').2) (show (throughT (ge p.es c).a.toNat (ge p.es r).b.toNat (gp (gf p.fl c) j).i.toNat (gp (gf p.fl r) m).o.toNat p.F.toNat (T, false)).2 = false by rw [h6]) a (rng _ _ _ ht).1
   rw [if_pos ht] at h7
   exact put_fix rfl h7
def unhT (p : Pb) (T : Nat → Nat → Nat → Bool) : Nat := (trip p.ns.length p.F.toNat).countP fun x => !T x.1 x.2.1 x.2.2
theorem round_unh {p : Pb} (ho : Ok p) {T : Nat → Nat → Nat → Bool} (h : (roundT p T).2 = true) : unhT p (roundT p T).1 < unhT p T := by
 have hr := round_rl ho T
 rcases hr.tr h with h1 | ⟨n, a, d, h1, h2, h3, h4, h5⟩
 · cases h1
 · refine countP_lt (y := (n, a, d)) (fun x hx => ?_) (by simpa using h4) (by simpa using h5) _ (mem_trip.2 ⟨h1, h2, h3⟩)
   simp at hx ⊢
   cases hh : T x.1 x.2.1 x.2.2 with
   | false => rfl
   | true => rw [hr.le _ _ _ hh] at hx; cases hx
end If
end Go.Df
namespace Go.Df
open Go.RowKit
namespace If
def gbl (l : List Bool) (i : Nat) : Bool := l.getD i false
def gil (l : List (List Int)) (i : Nat) : List Int := l.getD i []
def Bls (w : World) (A : Option Addr) (n : Nat) (l : List Bool) : Prop :=
 l.length = n ∧ (0 < n → ∃ b o, A = some ⟨b, o, none⟩ ∧ b < w.heap.size ∧ ∀ i, i < n → w.cell? ⟨b, o + i, none⟩ = some (.bool (gbl l i)))
theorem Bls.later {w w' : World} {A : Option Addr} {n : Nat} {l : List Bool} (h : Bls w A n l) (hb : Below w.heap.size w w') : Bls w' A n l :=
 ⟨h.1, fun hn => by
   obtain ⟨b, o, e, hl, hc⟩ := h.2 hn
   exact ⟨b, o, e, Nat.lt_of_lt_of_le hl hb.size, fun i hi => (hb.cell (p := ⟨b, _, none⟩) hl).trans (hc i hi)⟩⟩
def IntsR (w : World) (A : Option Addr) (n : Nat) (ls : List (List Int)) : Prop :=
 ls.length = n ∧ (0 < n → ∃ b o, A = some ⟨b, o, none⟩ ∧ b < w.heap.size ∧ ∀ i, i < n → ∃ Ai ni ci, w.cell? ⟨b, o + i, none⟩ = some (.slice Ai ni ci) ∧ Ints w Ai ni (gil ls i) ∧ ni ≤ 9223372036854775807)
theorem IntsR.later {w w' : World} {A : Option Addr} {n : Nat} {ls : List (List Int)} (h : IntsR w A n ls) (hb : Below w.heap.size w w') : IntsR w' A n ls :=
 ⟨h.1, fun hn => by
   obtain ⟨b, o, e, hl, hc⟩ := h.2 hn
   refine ⟨b, o, e, Nat.lt_of_lt_of_le hl hb.size, fun i hi => ?_⟩
   obtain ⟨Ai, ni, ci, h1, h2, h3⟩ := hc i hi
   exact ⟨Ai, ni, ci, (hb.cell (p := ⟨b, _, none⟩) hl).trans h1, h2.later hb, h3⟩⟩
def holdsS (re : List Bool) (fs : List (List Int)) (node fact : Int) : Bool :=
 if node < 0 then false else if fact = 0 then decide (node.toNat < re.length) && gbl re node.toNat else decide (node.toNat < fs.length) && decide (fact ∈ gil fs node.toNat)
theorem mem_upto {l : List Int} {x : Int} {k : Nat} (hk : k < l.length) (e : gi l k = x) : x ∈ l := by
 rw [gi_lt hk] at e
 exact e ▸ List.getElem_mem hk
theorem not_mem_upto {l : List Int} {x : Int} (h : ∀ j, j < l.length → gi l j ≠ x) : ¬ x ∈ l := by
 intro hm
 obtain ⟨j, hj, e⟩ := List.getElem_of_mem hm
 exact h j hj ((gi_lt hj).trans e)
end If
end Go.Df
namespace Go.Proofs.YtincpmdldpakkaaDoor
open Go.RowKit Go.Df Go.Df.If
attribute [local go_sem ↓] Go.wp_at_zero Go.wp_at_succ
set_option maxHeartbeats 1000000 in
theorem rhas_any (A : Option Addr) (n c : Nat) (l : List Int) (x : Int) (w : World) (hr : Ints w A n l) (hn : n ≤ 9223372036854775807) :
   Calls Tryd.prog 41 #[.slice A n c, .int .i64 x] w fun e w' => e = .returned (.bool (decide (x ∈ l))) ∧ w = w' := by
 have HR := Lib.hid hr
 have HL := Lib.hid hr.1
 clear hr
 go_enter Tryd.func41, Tryd.ntmps41
 go_wp2
 go_loop [5] (fun i => ∃ k : Nat, k ≤ n ∧ i = .int .i64 k ∧ Hid (∀ j, j < k → gi l j ≠ x)) (fun i => n - (intOf i).toNat)
 case atStart => exact ⟨0, Nat.zero_le _, rfl, Lib.hid (fun j hj => absurd hj (by omega))⟩
 case round =>
   obtain ⟨k, hk, rfl, hj⟩ := hrel
   by_cases hlt : k < n
   · obtain ⟨b, o, rfl, hl, hc⟩ := HR.out.2 (by omega)
     have hcell := hc k hlt
     have hk1 : (k : Int) < (n : Int) := by omega
     obtain ⟨v, hv⟩ : ∃ v, gi l k = v := ⟨_, rfl⟩
     rw [hv] at hcell
     have HV := Lib.hid hv
     clear hc hv
     by_cases e : v = x
     · have e1 : (v == x) = true := by simpa using e
       have HM : Hid (x ∈ l) := Lib.hid (mem_upto (by rw [HL.out]; exact hlt) (HV.out.trans e))
       clear e
       go_wp2
       go_ret
       exact ⟨ret_bool (decide_eq_true HM.out).symm, rfl⟩
     · have e1 : (v == x) = false := by simpa using e
       have HJ : Hid (∀ j, j < k + 1 → gi l j ≠ x) := fun j h1 => by
         rcases Nat.lt_or_ge j k with h2 | h2
         · exact hj.out j h2
         · obtain rfl : j = k := by omega
           rw [HV.out]; exact e
       clear e
       go_wp2
       go_round
       case rel => exact ⟨k + 1, by omega, by go_num, HJ⟩
       case measure => simp [intOf]; omega
   · have HM : Hid (¬ x ∈ l) := Lib.hid (not_mem_upto (fun j h1 => hj.out j (by rw [HL.out] at h1; omega)))
     go_wp2
     go_ret
     exact ⟨ret_bool (decide_eq_false HM.out).symm, rfl⟩
end Go.Proofs.YtincpmdldpakkaaDoor
namespace Go.Df
open Go.RowKit
namespace If
open Sp
open Classical in
/-- The facts of the solution at a node, ascending. -/
noncomputable def solF (p : Pb) (i : Nat) : List Int := ofNats ((List.range p.F.toNat).filter fun d => d != 0 && decide (∃ a, PE p a i d))
open Classical in
noncomputable def solR (p : Pb) (i : Nat) : Bool := decide (PE p 0 i 0)
open Classical in
theorem solR_eq {p : Pb} {i : Nat} {b : Bool} (h : b = true ↔ PE p 0 i 0) : b = solR p i := by
 unfold solR
 rw [Bool.eq_iff_iff, decide_eq_true_iff]
 exact h
end If
end Go.Df
namespace Go.Df
open Go.RowKit
namespace If
def Prs (w : World) (A : Option Addr) (n : Nat) (l : List Pr) : Prop :=
 l.length = n ∧ (0 < n → ∃ b o, A = some ⟨b, o, none⟩ ∧ b < w.heap.size ∧ ∀ i, i < n → w.cell? ⟨b, o + i * 2, none⟩ = some (.int .i64 (gp l i).i) ∧ w.cell? ⟨b, o + i * 2 + 1, none⟩ = some (.int .i64 (gp l i).o))
theorem Prs.later {w w' : World} {A : Option Addr} {n : Nat} {l : List Pr} (h : Prs w A n l) (hb : Below w.heap.size w w') : Prs w' A n l :=
 ⟨h.1, fun hn => by
   obtain ⟨b, o, e, hl, hc⟩ := h.2 hn
   exact ⟨b, o, e, Nat.lt_of_lt_of_le hl hb.size, fun i hi => ⟨(hb.cell (p := ⟨b, _, none⟩) hl).trans (hc i hi).1, (hb.cell (p := ⟨b, _, none⟩) hl).trans (hc i hi).2⟩⟩⟩
def Sds (w : World) (A : Option Addr) (n : Nat) (l : List Sd) : Prop :=
 l.length = n ∧ (0 < n → ∃ b o, A = some ⟨b, o, none⟩ ∧ b < w.heap.size ∧ ∀ i, i < n → w.cell? ⟨b, o + i * 2, none⟩ = some (.int .i64 (gd l i).n) ∧ w.cell? ⟨b, o + i * 2 + 1, none⟩ = some (.int .i64 (gd l i).f))
theorem Sds.later {w w' : World} {A : Option Addr} {n : Nat} {l : List Sd} (h : Sds w A n l) (hb : Below w.heap.size w w') : Sds w' A n l :=
 ⟨h.1, fun hn => by
   obtain ⟨b, o, e, hl, hc⟩ := h.2 hn
   exact ⟨b, o, e, Nat.lt_of_lt_of_le hl hb.size, fun i hi => ⟨(hb.cell (p := ⟨b, _, none⟩) hl).trans (hc i hi).1, (hb.cell (p := ⟨b, _, none⟩) hl).trans (hc i hi).2⟩⟩⟩
def Flw (w : World) (A : Option Addr) (n : Nat) (ls : List (List Pr)) : Prop :=
 ls.length = n ∧ (0 < n → ∃ b o, A = some ⟨b, o, none⟩ ∧ b < w.heap.size ∧ ∀ i, i < n → ∃ Ai ni ci, w.cell? ⟨b, o + i, none⟩ = some (.slice Ai ni ci) ∧ ni ≤ ci ∧ Prs w Ai ni (gf ls i))
theorem Flw.later {w w' : World} {A : Option Addr} {n : Nat} {ls : List (List Pr)} (h : Flw w A n ls) (hb : Below w.heap.size w w') : Flw w' A n ls :=
 ⟨h.1, fun hn => by
   obtain ⟨b, o, e, hl, hc⟩ := h.2 hn
   refine ⟨b, o, e, Nat.lt_of_lt_of_le hl hb.size, fun i hi => ?_⟩
   obtain ⟨Ai, ni, ci, h1, h2, h3⟩ := hc i hi
   exact ⟨Ai, ni, ci, (hb.cell (p := ⟨b, _, none⟩) hl).trans h1, h2, h3.later hb⟩⟩
theorem filter_all {l : List Pr} {d : Int} (h : ∀ q ∈ l, q.i = d) : l.filter (fun q => q.i == d) = l := List.filter_eq_self.2 fun q hq => by simpa using h q hq
theorem filter_no {l : List Pr} {d : Int} (h : ∀ q ∈ l, q.i ≠ d) : l.filter (fun q => q.i == d) = [] := List.filter_eq_nil_iff.2 fun q hq => by simpa using h q hq
theorem Prs.mid {w : World} {b o n a m : Nat} {l : List Pr} (h : Prs w (some ⟨b, o, none⟩) n l) (h0 : a + m ≤ n) (hl : 0 < n) : Prs w (some ⟨b, o + a * 2, none⟩) m ((l.drop a).take m) := by
 obtain ⟨b', o', e, hlt, hc⟩ := h.2 hl
 injection e with e; injection e with e1 e2; subst e1 e2
 have hn := h.1
 refine ⟨by rw [List.length_take, List.length_drop]; omega, fun _ => ⟨b, o + a * 2, rfl, hlt, fun i hi => ?_⟩⟩
 have e : gp ((l.drop a).take m) i = gp l (a + i) := by
   rw [gp_lt (by rw [List.length_take, List.length_drop]; omega), gp_lt (by omega), List.getElem_take, List.getElem_drop]
 rw [e, show o + a * 2 + i * 2 = o + (a + i) * 2 by omega]
 exact hc (a + i) (by omega)
def GetPrs (w0 : World) (w : World) (l : List Pr) (e : Ending) (w' : World) : Prop := ∃ A n c, e = .returned (.slice A n c) ∧ Prs w0 A n l ∧ Below w.heap.size w w'
end If
end Go.Df
namespace Go.Df
open Go.RowKit
namespace If
def prcells (l : List Pr) : List Value := l.flatMap fun x => [.int .i64 x.i, .int .i64 x.o]
theorem prcells_at : ∀ (l : List Pr) {i : Nat} (_ : i < l.length), (prcells l)[i * 2]? = some (.int .i64 (gp l i).i) ∧ (prcells l)[i * 2 + 1]? = some (.int .i64 (gp l i).o)
 | x :: l, 0, _ => by simp [prcells, gp]
 | x :: l, i + 1, h => by
   have h1 := prcells_at l (i := i) (by simpa using h)
   have e : prcells (x :: l) = [.int .i64 x.i, .int .i64 x.o] ++ prcells l := rfl
   have e2 : gp (x :: l) (i + 1) = gp l i := by simp [gp]
   rw [e, e2]
   refine ⟨?_, ?_⟩
   · rw [List.getElem?_append_right (by simp; omega), show (i + 1) * 2 - [Value.int .i64 x.i, .int .i64 x.o].length = i * 2 by simp; omega]; exact h1.1
   · rw [List.getElem?_append_right (by simp; omega), show (i + 1) * 2 + 1 - [Value.int .i64 x.i, .int .i64 x.o].length = i * 2 + 1 by simp; omega]; exact h1.2
theorem Prs.own {w : World} {base : Nat} {e : TypeId} {A : Option Addr} {n c : Nat} {l : List Pr} (h : w.ownsRow base e 2 (.slice A n c) n (prcells l)) (hl : l.length = n) : Prs w A n l ∧ n ≤ c := by
 by_cases h0 : 0 < n
 · obtain ⟨g, c', hv, hb, hg, hc, -, hcell, -⟩ := own_cellsT h h0
   injection hv with e1 e2 e3
   subst e1
   subst e3
   exact ⟨⟨hl, fun _ => ⟨g, 0, rfl, hg, fun i hi => by
     obtain ⟨h1, h2⟩ := prcells_at l (i := i) (by omega)
     rw [Nat.zero_add, hcell _ (by omega), hcell _ (by omega)]
     exact ⟨h1, h2⟩⟩⟩, hc⟩
 · exact ⟨⟨hl, fun h => absurd h h0⟩, by omega⟩
end If
end Go.Df
namespace Go.Proofs.YtincpmdldpakkaaDoor
open Go.RowKit Go.Df Go.Df.If
end Go.Proofs.YtincpmdldpakkaaDoor
namespace Go.Df
open Go.RowKit
namespace If
def RwP (base : Nat) (ti : TypeId) (R : Nat → Option Addr × Nat × Nat) (L : Nat → List Pr) (n : Nat) (w : World) : Prop :=
 ∀ x, x < n → Prs w (R x).1 (R x).2.1 (L x) ∧ (R x).2.1 ≤ (R x).2.2 ∧ ∀ a, (R x).1 = some a → base ≤ a.block ∧ Tag w a.block ti
theorem prs_keptT {X : List Nat} {w w' : World} {A : Option Addr} {m : Nat} {l : List Pr} (h : Prs w A m l) (hk : Kept X w w') (hA : ∀ a, A = some a → a.block ∉ X) : Prs w' A m l :=
 ⟨h.1, fun hn => by
   obtain ⟨b, o, e, hl, hc⟩ := h.2 hn
   exact ⟨b, o, e, Nat.lt_of_lt_of_le hl hk.size, fun i hi => ⟨(hk.cell b _ hl (hA _ e)).trans (hc i hi).1, (hk.cell b _ hl (hA _ e)).trans (hc i hi).2⟩⟩⟩
theorem RwP.kept {base : Nat} {ti : TypeId} {R : Nat → Option Addr × Nat × Nat} {L : Nat → List Pr} {n : Nat} {X : List Nat} {w w' : World} (h : RwP base ti R L n w) (hk : Kept X w w') (hX : ∀ b, Tag w b ti → base ≤ b → b ∉ X) : RwP base ti R L n w' := fun x hx => by
 obtain ⟨h1, h2, h3⟩ := h x hx
 exact ⟨prs_keptT h1 hk (fun a ha => hX _ (h3 a ha).2 (h3 a ha).1), h2, fun a ha => ⟨(h3 a ha).1, (h3 a ha).2.same (hk.block _ (h3 a ha).2.lt (hX _ (h3 a ha).2 (h3 a ha).1))⟩⟩
def updP (f : Nat → Option Addr × Nat × Nat) (n : Nat) (x : Option Addr × Nat × Nat) : Nat → Option Addr × Nat × Nat := fun i => if i = n then x else f i
theorem RwP.snoc {base : Nat} {ti : TypeId} {R : Nat → Option Addr × Nat × Nat} {L : Nat → List Pr} {n : Nat} {w : World} (h : RwP base ti R L n w) {A : Option Addr} {m c : Nat} (hA : Prs w A m (L n)) (hm : m ≤ c) (ha : ∀ a, A = some a → base ≤ a.block ∧ Tag w a.block ti) : RwP base ti (updP R n (A, m, c)) L (n + 1) w := fun x hx => by
 unfold updP
 by_cases e : x = n
 · subst e; rw [if_pos rfl]; exact ⟨hA, hm, ha⟩
 · rw [if_neg e]; exact h x (by omega)
def rowsP (R : Nat → Option Addr × Nat × Nat) (n : Nat) : List Value := (List.range n).map fun x => Value.slice (R x).1 (R x).2.1 (R x).2.2
theorem rowsP_snoc (R : Nat → Option Addr × Nat × Nat) (n m c : Nat) (A : Option Addr) : rowsP R n ++ [Value.slice A m c] = rowsP (updP R n (A, m, c)) (n + 1) := by
 unfold rowsP
 rw [List.range_succ, List.map_append]
 congr 1
 · refine List.map_congr_left fun x hx => ?_
   have : x ≠ n := by have := List.mem_range.1 hx; omega
   simp [updP, this]
 · simp [updP]
theorem RwP.flw {base : Nat} {ti e : TypeId} {R : Nat → Option Addr × Nat × Nat} {ls : List (List Pr)} {n c : Nat} {A : Option Addr} {w : World} (h : RwP base ti R (gf ls) n w) (ho : w.ownsRow base e 1 (.slice A n c) n (rowsP R n)) (hl : ls.length = n) : Flw w A n ls ∧ n ≤ c := by
 by_cases h0 : 0 < n
 · obtain ⟨g, c', hv, hb, hg, hc, -, hcell, -⟩ := own_cellsT ho h0
   injection hv with e1 e2 e3
   subst e1
   subst e3
   refine ⟨⟨hl, fun _ => ⟨g, 0, rfl, hg, fun i hi => ?_⟩⟩, hc⟩
   obtain ⟨h1, h2, -⟩ := h i hi
   refine ⟨(R i).1, (R i).2.1, (R i).2.2, ?_, h2, h1⟩
   rw [Nat.zero_add, hcell _ (by omega)]
   simp [rowsP, hi]
 · exact ⟨⟨hl, fun h => absurd h h0⟩, by omega⟩
def sdcells (l : List Sd) : List Value := l.flatMap fun x => [.int .i64 x.n, .int .i64 x.f]
theorem sdcells_at : ∀ (l : List Sd) {i : Nat} (_ : i < l.length), (sdcells l)[i * 2]? = some (.int .i64 (gd l i).n) ∧ (sdcells l)[i * 2 + 1]? = some (.int .i64 (gd l i).f)
 | x :: l, 0, _ => by simp [sdcells, gd]
 | x :: l, i + 1, h => by
   have h1 := sdcells_at l (i := i) (by simpa using h)
   have e : sdcells (x :: l) = [.int .i64 x.n, .int .i64 x.f] ++ sdcells l := rfl
   have e2 : gd (x :: l) (i + 1) = gd l i := by simp [gd]
   rw [e, e2]
   refine ⟨?_, ?_⟩
   · rw [List.getElem?_append_right (by simp; omega), show (i + 1) * 2 - [Value.int .i64 x.n, .int .i64 x.f].length = i * 2 by simp; omega]; exact h1.1
   · rw [List.getElem?_append_right (by simp; omega), show (i + 1) * 2 + 1 - [Value.int .i64 x.n, .int .i64 x.f].length = i * 2 + 1 by simp; omega]; exact h1.2
theorem Sds.own {w : World} {base : Nat} {e : TypeId} {A : Option Addr} {n c : Nat} {l : List Sd} (h : w.ownsRow base e 2 (.slice A n c) n (sdcells l)) (hl : l.length = n) : Sds w A n l ∧ n ≤ c := by
 by_cases h0 : 0 < n
 · obtain ⟨g, c', hv, hb, hg, hc, -, hcell, -⟩ := own_cellsT h h0
   injection hv with e1 e2 e3
   subst e1
   subst e3
   exact ⟨⟨hl, fun _ => ⟨g, 0, rfl, hg, fun i hi => by
     obtain ⟨h1, h2⟩ := sdcells_at l (i := i) (by omega)
     rw [Nat.zero_add, hcell _ (by omega), hcell _ (by omega)]
     exact ⟨h1, h2⟩⟩⟩, hc⟩
 · exact ⟨⟨hl, fun h => absurd h h0⟩, by omega⟩
theorem take_gp (l : List Pr) {j : Nat} (h : j < l.length) : l.take (j + 1) = l.take j ++ [gp l j] := by
 rw [gp_lt h, List.take_succ_eq_append_getElem h]
theorem take_gd (l : List Sd) {j : Nat} (h : j < l.length) : l.take (j + 1) = l.take j ++ [gd l j] := by
 rw [gd_lt h, List.take_succ_eq_append_getElem h]
def Pw (w : World) (g f : Nat) (v : Nat → Pr) : Prop := g < w.heap.size ∧ (∀ a, a < f → w.cell? ⟨g, a * 2, none⟩ = some (.int .i64 (v a).i) ∧ w.cell? ⟨g, a * 2 + 1, none⟩ = some (.int .i64 (v a).o)) ∧ ∀ i, w.frozen? ⟨g, i, none⟩ = false
theorem Pw.kept {w w' : World} {g f : Nat} {v : Nat → Pr} {X : List Nat} (h : Pw w g f v) (hk : Kept X w w') (hg : g ∉ X) : Pw w' g f v :=
 ⟨Nat.lt_of_lt_of_le h.1 hk.size, fun a ha => ⟨(hk.cell g _ h.1 hg).trans (h.2.1 a ha).1, (hk.cell g _ h.1 hg).trans (h.2.1 a ha).2⟩, fun i => (hk.frozen g i h.1 hg).trans (h.2.2 i)⟩
theorem Pw.put {w : World} {g f : Nat} {v : Nat → Pr} (h : Pw w g f v) {d : Nat} (hd : d < f) (x y : Int) {i : Nat} (hi : i = d * 2) :
   Pw ((w.setCell ⟨g, i, none⟩ (.int .i64 x)).setCell ⟨g, i + 1, none⟩ (.int .i64 y)) g f (fun a => if a = d then ⟨x, y⟩ else v a) := by
 subst hi
 have hc := h.2.1 d hd
 refine ⟨by simpa [World.setCell] using h.1, fun a ha => ?_, fun i => by simpa using h.2.2 i⟩
 by_cases e : a = d
 · subst e
   dsimp only
   rw [if_pos rfl]
   have s1 := set_same (v := .int .i64 x) hc.1
   have c2 : (w.setCell ⟨g, a * 2, none⟩ (.int .i64 x)).cell? ⟨g, a * 2 + 1, none⟩ = some (.int .i64 (v a).o) := (set_other (.inr (by omega))).trans hc.2
   have s2 := set_same (v := .int .i64 y) c2
   exact ⟨by rw [set_other (.inr (by omega))]; exact s1, s2⟩
 · dsimp only
   rw [if_neg e]
   have key : ∀ (w : World) (v : Value) (x z : Nat), x < 2 → z < 2 → (w.setCell ⟨g, d * 2 + x, none⟩ v).cell? ⟨g, a * 2 + z, none⟩ = w.cell? ⟨g, a * 2 + z, none⟩ := fun w v x z hx hz => set_other (.inr (by omega))
   have hca := h.2.1 a ha
   exact ⟨((key _ (.int .i64 y) 1 0 (by omega) (by omega)).trans (key w (.int .i64 x) 0 0 (by omega) (by omega))).trans hca.1,
     ((key _ (.int .i64 y) 1 1 (by omega) (by omega)).trans (key w (.int .i64 x) 0 1 (by omega) (by omega))).trans hca.2⟩
theorem Pw.made {w : World} {g f : Nat} {M : Array Value} {t : TypeId} (h : w.heap[g]? = some (.cells M t (0, 0))) (hM : (List.replicate (f * 2) (Value.int .i64 0)).toArray = M) : Pw w g f (fun _ => ⟨0, 0⟩) := by
 refine ⟨(Array.getElem?_eq_some_iff.1 h).1, fun a ha => ⟨?_, ?_⟩, fun i => by simp [World.frozen?, h]⟩
 · have h9 := rep_at (v := Value.int .i64 0) (n := f * 2) (i := a * 2) (by omega)
   rw [hM] at h9
   simpa [World.cell?, h] using h9
 · have h9 := rep_at (v := Value.int .i64 0) (n := f * 2) (i := a * 2 + 1) (by omega)
   rw [hM] at h9
   simpa [World.cell?, h] using h9
theorem Pw.same {w : World} {g f : Nat} {v v' : Nat → Pr} (h : Pw w g f v) (he : ∀ a, a < f → v a = v' a) : Pw w g f v' :=
 ⟨h.1, fun a ha => by rw [← he a ha]; exact h.2.1 a ha, h.2.2⟩
theorem Pw.prs {w : World} {g : Nat} {l : List Pr} (h : Pw w g l.length (gp l)) : Prs w (some ⟨g, 0, none⟩) l.length l :=
 ⟨rfl, fun _ => ⟨g, 0, rfl, h.1, fun i hi => by rw [Nat.zero_add]; exact h.2.1 i hi⟩⟩
def upTo (l : List Pr) (j : Nat) : Nat → Pr := fun a => if a < j then gp l a else ⟨0, 0⟩
structure Fo (L : List (List Pr)) (N i base : Nat) (w : World) (go : Nat) (rw : Nat → Nat) : Prop where
 glt : go < w.heap.size
 gb : go < base
 gfr : ∀ x, w.frozen? ⟨go, x, none⟩ = false
 row : ∀ n, n < i → w.cell? ⟨go, n, none⟩ = some (.slice (some ⟨rw n, 0, none⟩) (gf L n).length (gf L n).length)
 nil : ∀ n, i ≤ n → n < N → w.cell? ⟨go, n, none⟩ = some (.slice none 0 0)
 r : ∀ n, n < i → Pw w (rw n) (gf L n).length (gp (gf L n))
 rb : ∀ n, n < i → base ≤ rw n
section
variable {L : List (List Pr)} {N i base : Nat} {w w' : World} {go : Nat} {rw : Nat → Nat}
theorem Fo.kept {X : List Nat} (h : Fo L N i base w go rw) (hk : Kept X w w') (hg : go ∉ X) (hX : ∀ n, n < i → rw n ∉ X) : Fo L N i base w' go rw :=
 ⟨Nat.lt_of_lt_of_le h.glt hk.size, h.gb, fun x => (hk.frozen go x h.glt hg).trans (h.gfr x), fun n hn => (hk.cell go n h.glt hg).trans (h.row n hn), fun n h1 h2 => (hk.cell go n h.glt hg).trans (h.nil n h1 h2), fun n hn => (h.r n hn).kept hk (hX n hn), h.rb⟩
theorem Fo.over {u : World} {X : List Nat} (h : Fo L N i base u go rw) (hk : Kept X u w') (hX : ∀ x ∈ X, u.heap.size ≤ x) : Fo L N i base w' go rw :=
 h.kept hk (fun hm => by have := hX go hm; have := h.glt; omega) (fun n hn hm => by have := hX _ hm; have := (h.r n hn).1; omega)
theorem Fo.snoc (h : Fo L N i base w go rw) (hi : i < N) {g m : Nat} (hg : base ≤ g) (hm : (gf L i).length = m) (hr : Pw w g m (gp (gf L i))) :
   Fo L N (i + 1) base (w.setCell ⟨go, i, none⟩ (.slice (some ⟨g, 0, none⟩) m m)) go (updN rw i g) := by
 subst hm
 have hgb := h.gb
 have hk : Kept [go] w (w.setCell ⟨go, i, none⟩ (.slice (some ⟨g, 0, none⟩) (gf L i).length (gf L i).length)) := (Kept.refl [go] w).set go i _ (.inl (by simp))
 have e1 : ∀ n, n < i → updN rw i g n = rw n := fun n hn => by unfold updN; rw [if_neg (by omega)]
 have e2 : updN rw i g i = g := by unfold updN; rw [if_pos rfl]
 refine ⟨by simpa [World.setCell] using h.glt, hgb, fun x => by simpa using h.gfr x, fun n hn => ?_, fun n h1 h2 => ?_, fun n hn => ?_, fun n hn => ?_⟩
 · by_cases e : n = i
   · subst e
     rw [e2]
     exact set_same (h.nil n (Nat.le_refl _) hi)
   · rw [e1 n (by omega), set_other (.inr (by simpa using fun e' => e e'.symm))]
     exact h.row n (by omega)
 · rw [set_other (.inr (by simp; omega))]
   exact h.nil n (by omega) h2
 · by_cases e : n = i
   · subst e
     rw [e2]
     exact hr.kept hk (by simp; omega)
   · rw [e1 n (by omega)]
     exact (h.r n (by omega)).kept hk (by have := h.rb n (by omega); simp; omega)
 · by_cases e : n = i
   · subst e
     rw [e2]
     exact hg
   · rw [e1 n (by omega)]
     exact h.rb n (by omega)
theorem Fo.flw (h : Fo L N N base w go rw) (hl : L.length = N) : Flw w (some ⟨go, 0, none⟩) N L :=
 ⟨hl, fun _ => ⟨go, 0, rfl, h.glt, fun i hi => ⟨some ⟨rw i, 0, none⟩, (gf L i).length, (gf L i).length, by rw [Nat.zero_add]; exact h.row i hi, Nat.le_refl _, (h.r i hi).prs⟩⟩⟩
end
end If
end Go.Df
