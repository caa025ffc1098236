/- Texts: Zi Ie Na Vn Gz Lgz Ka Ldz. -/
import Derived.Test.YtooejoajojanjaaGreatDoorXSf11
import Derived.Test.YtooejoajojanjaaGreatDoorXSf08
import Derived.Test.YtooejoajojanjaaGreatDoorXSf04
import Derived.Test.YtooejoajojanjaaGreatDoorXSf05
import Derived.Test.YtooejoajojanjaaGreatDoorXSf07
import Derived.Test.YtooejoajojanjaaGreatDoorXSf03
import Derived.Test.YtooejoajojanjaaGreatDoorXSf01
import Derived.Test.YtooejoajojanjaaGreatDoorRows
namespace Go.Df
open Go.RowKit
namespace If
open Sp
def exF (L : List Su) (f : Int) : List Pr := L.flatMap fun u => if u.f = f then u.x else []
def thF (L : List Su) (f : Int) : List Pr := L.flatMap fun u => if u.f = f then u.y else []
theorem endP_ex {ns : List Nd} {L : List Su} {x : Nat} (h : (gn ns x).k ≠ 4) : endP ns L x = exF L (gn ns x).f := by
 unfold endP exF
 simp only [if_neg h]
theorem endP_th {ns : List Nd} {L : List Su} {x : Nat} (h : (gn ns x).k = 4) : endP ns L x = thF L (gn ns x).f := by
 unfold endP thF
 simp only [if_pos h]
def Ord (l : List Pr) : Prop := l.length ≤ 8192 ∧ ∀ i j, i ≤ j → j < l.length → (gp l i).i ≤ (gp l j).i
end If
end Go.Df
namespace Go.Proofs.YtooejoajojanjaaGreatDoor
open Go.RowKit Go.Df Go.Df.If Go.Maps
attribute [local go_sem ↓] Go.wp_at_zero Go.wp_at_succ
theorem Tryz.zeroSum (w : World) : (zeroValue 30).run Tryz.prog w = .ok (.agg #[.int .i64 0, .slice none 0 0, .slice none 0 0]) w := by kernel_rfl
theorem Tryz.mapIS : Tryz.prog.underlying 96 = some (.map 3 30) := by kernel_rfl
def SuV (w0 : World) (L : List Su) (f : Int) (v : Value) : Prop :=
 ∃ (fv : Int) (A : Option Addr) (n c : Nat) (A' : Option Addr) (n' c' : Nat), v = .agg #[.int .i64 fv, .slice A n c, .slice A' n' c'] ∧ n ≤ c ∧ n' ≤ c' ∧ Prs w0 A n (exF L f) ∧ Prs w0 A' n' (thF L f) ∧ Ord (exF L f) ∧ Ord (thF L f)
structure KnX (p : Px) (K : Kn) (w0 : World) (O : Nat → Prop) (w : World) : Prop where
 no : p.kn = none → K.kv = .map none
 wf : p.kn ≠ none → ∀ x, x < p.ns.length → (Lit.int .i64 (gn p.ns x).f).wf = true
 yes : ∀ L, p.kn = some L → ∃ kb c v, K.kv = .map (some kb) ∧ SafeB O w kb ∧ MapQ Tryz.prog 3 (.agg #[.int .i64 0, .slice none 0 0, .slice none 0 0]) w kb c v ∧ ∀ f : Int, (Lit.int .i64 f).wf = true → SuV w0 L f (v (.int .i64 f))
theorem KnX.fx {p : Px} {K : Kn} {w0 w w' : World} {O O' : Nat → Prop} (h : KnX p K w0 O w) (f : Fx O O' w w') : KnX p K w0 O' w' :=
 ⟨h.no, h.wf, fun L hL => by
   obtain ⟨kb, c, v, h1, h2, h3, h4⟩ := h.yes L hL
   exact ⟨kb, c, v, h1, h2.fx f, h3.same (h2.heap f), h4⟩⟩
set_option maxRecDepth 100000 in
set_option maxHeartbeats 4000000 in
theorem fsearch0_any (b0 b1 : Nat) (w : World) :
   Calls Tryz.prog 189 #[.int .i64 0, .func (.func 190) #[] #[.pointer (some ⟨b0, 0, none⟩), .pointer (some ⟨b1, 0, none⟩)]] w fun e w' =>
     e = .returned (.int .i64 0) ∧ Below w.heap.size w w' := by
 have h := fsearch_any b0 b1 0 (fun _ => true) w (by omega) (fun _ _ _ h => absurd h (by omega)) (fun _ _ _ _ h => h)
 exact h.mono fun e w' ⟨r, h1, h2, _, _, h5⟩ => by
   obtain rfl : r = 0 := by omega
   exact ⟨h1, h5⟩
set_option maxRecDepth 100000 in
set_option maxHeartbeats 4000000 in
theorem from0_any (A : Option Addr) (c d : Nat) (w0 w : World) :
   Calls Tryz.prog 169 #[.slice A 0 c, .int .i64 d] w (GetPrs w0 w []) := by
 go_enter Tryz.func169, Tryz.ntmps169
 go_upto_region 1 with fail
 refine wp_named (fun W => ∃ b0 b1, w.heap.size = b0 ∧ w.heap.size + 1 = b1 ∧ Blk W b0 [.slice A 0 c] ∧ Blk W b1 [.int .i64 d] ∧ Below w.heap.size w W) ⟨_, _, rfl, rfl, ?_, ?_, ?_⟩ ?_
 · exact (Blk.new _ _ _ _ (by first | rfl | simp)).alloc _
 · exact kbn
 · go_grown
 rintro W ⟨b0, b1, e0, e1, B0, B1, hB⟩
 rw [e1, e0]
 have G0 : w.heap.size ≤ b0 := by omega
 have n01 : b0 ≠ b1 := by omega
 have G1 : w.heap.size ≤ b1 := by omega
 have n10 : b1 ≠ b0 := by omega
 clear e0 e1
 have ⟨L0, C0, F0⟩ := B0
 have ⟨L1, C1, F1⟩ := B1
 have hkW : Kept [] w W := (Kept.refl _ _).call hB
 cases A with
 | none =>
   by_cases hc : c = 0
   · subst hc
     go_upto_region 2 with (go_at_call 189; refine (fsearch0_any b0 b1 _).mono ?_; rintro e w1 ⟨rfl, hb1⟩)
     have hk1 : Kept [] W w1 := (Kept.refl _ _).call hb1
     go_wp2_with fail
     go_loopw [6] (fun i wr => i = .int .i64 0 ∧ Kept [] W wr) (fun _ _ => 0)
     case atStart => exact ⟨rfl, hk1⟩
     case round =>
       obtain ⟨rfl, hkr⟩ := hrel
       have ⟨L2, C2, F2⟩ := hkr.blk (by simp) B0
       clear C0 F0 hk1
       go_upto_region 3 with fail
       go_quiet (fail)
       go_wp2_with fail
       go_ret
       exact ⟨_, _, _, rfl, ⟨rfl, fun h => absurd h (by omega)⟩, ((keptTrans hkW hkr).drewN _).toBelow⟩
   · have hc2 : ¬ c = 0 := hc
     go_upto_region 2 with (go_at_call 189; refine (fsearch0_any b0 b1 _).mono ?_; rintro e w1 ⟨rfl, hb1⟩)
     have hk1 : Kept [] W w1 := (Kept.refl _ _).call hb1
     go_wp2_with fail
     go_loopw [6] (fun i wr => i = .int .i64 0 ∧ Kept [] W wr) (fun _ _ => 0)
     case atStart => exact ⟨rfl, hk1⟩
     case round =>
       obtain ⟨rfl, hkr⟩ := hrel
       have ⟨L2, C2, F2⟩ := hkr.blk (by simp) B0
       clear C0 F0 hk1
       go_upto_region 3 with fail
       go_quiet (fail)
       go_wp2_with fail
       go_ret
       exact ⟨_, _, _, rfl, ⟨rfl, fun h => absurd h (by omega)⟩, ((keptTrans hkW hkr).drewN _).toBelow⟩
 | some a =>
   by_cases hc : c = 0
   · subst hc
     go_upto_region 2 with (go_at_call 189; refine (fsearch0_any b0 b1 _).mono ?_; rintro e w1 ⟨rfl, hb1⟩)
     have hk1 : Kept [] W w1 := (Kept.refl _ _).call hb1
     go_wp2_with fail
     go_loopw [6] (fun i wr => i = .int .i64 0 ∧ Kept [] W wr) (fun _ _ => 0)
     case atStart => exact ⟨rfl, hk1⟩
     case round =>
       obtain ⟨rfl, hkr⟩ := hrel
       have ⟨L2, C2, F2⟩ := hkr.blk (by simp) B0
       clear C0 F0 hk1
       go_upto_region 3 with fail
       go_quiet (fail)
       go_wp2_with fail
       go_ret
       exact ⟨_, _, _, rfl, ⟨rfl, fun h => absurd h (by omega)⟩, ((keptTrans hkW hkr).drewN _).toBelow⟩
   · have hc2 : ¬ c = 0 := hc
     go_upto_region 2 with (go_at_call 189; refine (fsearch0_any b0 b1 _).mono ?_; rintro e w1 ⟨rfl, hb1⟩)
     have hk1 : Kept [] W w1 := (Kept.refl _ _).call hb1
     go_wp2_with fail
     go_loopw [6] (fun i wr => i = .int .i64 0 ∧ Kept [] W wr) (fun _ _ => 0)
     case atStart => exact ⟨rfl, hk1⟩
     case round =>
       obtain ⟨rfl, hkr⟩ := hrel
       have ⟨L2, C2, F2⟩ := hkr.blk (by simp) B0
       clear C0 F0 hk1
       go_upto_region 3 with fail
       go_quiet (fail)
       go_wp2_with fail
       go_ret
       exact ⟨_, _, _, rfl, ⟨rfl, fun h => absurd h (by omega)⟩, ((keptTrans hkW hkr).drewN _).toBelow⟩
theorem from_all (A : Option Addr) (n c d : Nat) (l : List Pr) (w0 w : World) (hp : Prs w0 A n l) (hbw : Below w0.heap.size w0 w) (hc : n ≤ c) (ho : Ord l) :
   Calls Tryz.prog 169 #[.slice A n c, .int .i64 d] w (GetPrs w0 w (froms l d)) := by
 by_cases h0 : 0 < n
 · exact from_any A n c d l w0 w hp hbw h0 (by have := ho.1; have := hp.1; omega) hc ho.2
 · obtain rfl : n = 0 := by omega
   obtain rfl : l = [] := List.eq_nil_of_length_eq_zero hp.1
   exact from0_any A c d w0 w
set_option maxRecDepth 100000 in
set_option maxHeartbeats 4000000 in
theorem ends_none {p : Px} {K : Kn} {w0 : World} {b : Nat} {O : Nat → Prop} {G : Gh} {s : St} (w : World) (x c0 : Nat) (hI : Inp p.toPb K w0) (hw : Wf p.toPb s) (hm : Mem p.toPb K w0 b O G w s) (hk : KnX p K w0 O w) (hkn : p.kn = none) (hx : x < p.ns.length) (hc : c0 ≤ 1000000) :
   Calls Tryz.prog 170 #[.pointer (some ⟨b, 0, none⟩), .int .i64 x, .int .i64 c0] w (GetList w (endsX p s x c0)) := by
 have hx1 : x < K.n1 := by have := hI.nd.1; omega
 have hx1' : (x : Int) < (K.n1 : Int) := by omega
 have B0 := hm.box
 unfold sbox at B0
 rw [hk.no hkn] at B0
 have ⟨LB, CB, FB⟩ := B0
 obtain ⟨A, kk, c, l, hv, hbt, hkk, hA, hsf, hhas⟩ := hm.hbits x c0 hx1
 obtain ⟨bm, hbm⟩ := hm.hsm x hx1
 have r9 : w.cell? ⟨K.hr, x, none⟩ = some (.map (some bm)) := by have := hm.held.cell hx1; rwa [hbm] at this
 have ler : K.hr < w.heap.size := (hm.og _ hm.oh).2
 have hrun : (Instr.lookup 157 (.map (some bm)) (.int .i64 c0) false).run Tryz.prog w = .ok (.slice A kk c) w := by
   have := (hm.held.is x bm hx1 hbm).look Tryz.lawInt Tryz.mapIB (Tryz.zeroBits w) (Tryz.keyInt (c0 : Int) (WalkArith.wf_i64 (by omega)))
   rwa [hv] at this
 have hqm := fun w r => run_eql_map_nil (P := Tryz.prog) w 96 3 30 r Tryz.mapIS
 have HBT := Lib.hid hbt
 have hel := elems_list hw hhas
 rw [hbt.1] at hel
 have HE : Hid (endsX p s x c0 = elems p.F.toNat (s.h x c0)) := by show _ = _; unfold endsX; rw [hkn]
 have HEL := Lib.hid hel
 clear hm hw hI hbt hA hsf hhas hv hbm hel hk
 go_enter Tryz.func170, Tryz.ntmps170
 go_wp2_with (go_at_call 95; refine (blist_any A kk c l _ HBT.out hkk).mono ?_; rw [HEL.out]; rintro e w4 ⟨A8, n8, c8, rfl, hs8, hf8, hb8⟩)
 go_ret
 rw [HE.out]
 exact ⟨A8, n8, c8, rfl, hs8, hf8, hb8⟩
end Go.Proofs.YtooejoajojanjaaGreatDoor
namespace Go.Df
open Go.RowKit
namespace If
open Sp
abbrev Tm := (Nat → Nat → Nat → Bool) × Bool
def putT (s : Tm) (n a d : Nat) : Tm := if s.1 n a d = true then s else (fun n' a' d' => s.1 n' a' d' || (n' == n && (a' == a && d' == d)), true)
def up : Nat → (Nat → Tm → Tm) → Tm → Tm
 | 0, _, s => s
 | i + 1, f, s => f i (up i f s)
def seededT (p : Pb) (j : Nat) : Tm → Tm := up j fun i s => if s.1 (gd p.sd i).n.toNat 0 0 = true then putT s (gd p.sd i).n.toNat 0 (gd p.sd i).f.toNat else s
def passedR (p : Pb) (k a j : Nat) : Tm → Tm := up j fun i s => if s.1 (ge p.es k).a.toNat a (gp (gf p.fl k) i).i.toNat = true then putT s (ge p.es k).b.toNat a (gp (gf p.fl k) i).o.toNat else s
def passedT (p : Pb) (k j : Nat) : Tm → Tm := up j fun a => passedR p k a (gf p.fl k).length
def enteredR (p : Pb) (k a j : Nat) : Tm → Tm := up j fun i s => if s.1 (ge p.es k).a.toNat a (gp (gf p.fl k) i).i.toNat = true then putT s (ge p.es k).b.toNat (gp (gf p.fl k) i).o.toNat (gp (gf p.fl k) i).o.toNat else s
def enteredT (p : Pb) (k j : Nat) : Tm → Tm := up j fun a => enteredR p k a (gf p.fl k).length
def throughT (c m d e j : Nat) : Tm → Tm := up j fun a s => if s.1 c a d = true then putT s m a e else s
def retM (p : Pb) (k i j m : Nat) : Tm → Tm := up m fun m s => if s.1 (ge p.es k).a.toNat (gp (gf p.fl i) j).o.toNat (gp (gf p.fl k) m).i.toNat = true then throughT (ge p.es i).a.toNat (ge p.es k).b.toNat (gp (gf p.fl i) j).i.toNat (gp (gf p.fl k) m).o.toNat p.F.toNat s else s
def retJ (p : Pb) (k i j : Nat) : Tm → Tm := up j fun j => retM p k i j (gf p.fl k).length
def retC (p : Pb) (k i : Nat) : Prop := (ge p.es i).k = 2 ∧ (ge p.es i).a = (ge p.es k).c ∧ (gn p.ns (ge p.es i).b.toNat).f = (gn p.ns (ge p.es k).a.toNat).f
instance (p : Pb) (k i : Nat) : Decidable (retC p k i) := by unfold retC; infer_instance
def returnedT (p : Pb) (k j : Nat) : Tm → Tm := up j fun i s => if retC p k i then retJ p k i (gf p.fl i).length s else s
def edgeT (p : Pb) (k : Nat) (s : Tm) : Tm :=
 if (ge p.es k).k = 1 ∨ (ge p.es k).k = 5 then passedT p k p.F.toNat s else if (ge p.es k).k = 2 then enteredT p k p.F.toNat s else returnedT p k p.es.length s
def roundE (p : Pb) (j : Nat) : Tm → Tm := up j (edgeT p)
def roundT (p : Pb) (T : Nat → Nat → Nat → Bool) : Tm := roundE p p.es.length (seededT p p.sd.length (T, false))
def Lin (f : Tm → Tm) : Prop := ∀ T m, f (T, m) = ((f (T, false)).1, m || (f (T, false)).2)
theorem Lin.id : Lin fun s => s := fun T m => by simp
theorem Lin.put (n a d : Nat) : Lin fun s => putT s n a d := fun T m => by
 unfold putT
 dsimp only
 split <;> simp
theorem Lin.comp {f g : Tm → Tm} (hf : Lin f) (hg : Lin g) : Lin fun s => f (g s) := fun T m => by
 show f (g (T, m)) = ((f (g (T, false))).1, m || (f (g (T, false))).2)
 rw [hg T m]
 generalize g (T, false) = x
 obtain ⟨x1, x2⟩ := x
 rw [hf x1 x2, hf x1 (m || x2)]
 simp [Bool.or_assoc]
theorem Lin.ite {f : Tm → Tm} (hf : Lin f) (n a d : Nat) : Lin fun s => if s.1 n a d = true then f s else s := fun T m => by
 dsimp only
 split
 · exact hf T m
 · simp
theorem Lin.up {f : Nat → Tm → Tm} (hf : ∀ i, Lin (f i)) : ∀ n, Lin (If.up n f)
 | 0 => Lin.id
 | n + 1 => (hf n).comp (Lin.up hf n)
theorem passedR_lin (p : Pb) (k a j : Nat) : Lin (passedR p k a j) := Lin.up (fun _i => (Lin.put _ _ _).ite _ _ _) j
theorem passed_lin (p : Pb) (k j : Nat) : Lin (passedT p k j) := Lin.up (fun i => passedR_lin p k i _) j
theorem enteredR_lin (p : Pb) (k a j : Nat) : Lin (enteredR p k a j) := Lin.up (fun _i => (Lin.put _ _ _).ite _ _ _) j
theorem entered_lin (p : Pb) (k j : Nat) : Lin (enteredT p k j) := Lin.up (fun i => enteredR_lin p k i _) j
theorem through_lin (c m d e j : Nat) : Lin (throughT c m d e j) := Lin.up (fun _i => (Lin.put _ _ _).ite _ _ _) j
structure Rl (p : Pb) (s t : Tm) : Prop where
 le : ∀ n a d, s.1 n a d = true → t.1 n a d = true
 fl : t.2 = false → t = s
 tr : t.2 = true → s.2 = true ∨ ∃ n a d, n < p.ns.length ∧ a < p.F.toNat ∧ d < p.F.toNat ∧ s.1 n a d = false ∧ t.1 n a d = true
theorem Rl.refl (p : Pb) (s : Tm) : Rl p s s := ⟨fun _ _ _ h => h, fun _ => rfl, fun h => .inl h⟩
theorem Rl.trans {p : Pb} {s t u : Tm} (h : Rl p s t) (g : Rl p t u) : Rl p s u := by
 refine ⟨fun n a d x => g.le _ _ _ (h.le _ _ _ x), fun x => ?_, fun x => ?_⟩
 · have h1 := g.fl x
   rw [h1] at x ⊢
   exact h.fl x
 · rcases g.tr x with y | ⟨n, a, d, h1, h2, h3, h4, h5⟩
   · rcases h.tr y with z | ⟨n, a, d, h1, h2, h3, h4, h5⟩
     · exact .inl z
     · exact .inr ⟨n, a, d, h1, h2, h3, h4, g.le _ _ _ h5⟩
   · refine .inr ⟨n, a, d, h1, h2, h3, ?_, h5⟩
     cases hh : s.1 n a d with
     | false => rfl
     | true => rw [h.le _ _ _ hh] at h4; cases h4
theorem Rl.put {p : Pb} {s : Tm} {n a d : Nat} (hn : n < p.ns.length) (ha : a < p.F.toNat) (hd : d < p.F.toNat) : Rl p s (putT s n a d) := by
 unfold putT
 split
 · exact Rl.refl _ _
 · rename_i h0
   exact ⟨fun n' a' d' h => (by simp [h]), fun h => (by cases h), fun _ => .inr ⟨n, a, d, hn, ha, hd, by simpa using h0, by simp⟩⟩
theorem Rl.up {p : Pb} {f : Nat → Tm → Tm} {s : Tm} : ∀ n, (∀ i, i < n → ∀ s, Rl p s (f i s)) → Rl p s (If.up n f s)
 | 0, _ => Rl.refl _ _
 | n + 1, h => (Rl.up n (fun i hi => h i (by omega))).trans (h n (by omega) _)
theorem Rl.ite {p : Pb} {s t : Tm} {c : Prop} [Decidable c] (h : c → Rl p s t) : Rl p s (if c then t else s) := by
 split
 · exact h ‹_›
 · exact Rl.refl _ _
theorem up_fix {p : Pb} {f : Nat → Tm → Tm} {s : Tm} : ∀ n, (∀ i, i < n → ∀ s, Rl p s (f i s)) → (If.up n f s).2 = false → ∀ i, i < n → f i s = s
 | 0, _, _, i, hi => by omega
 | n + 1, h, hf, i, hi => by
   rw [If.up] at hf
   have h1 := (h n (by omega) (If.up n f s)).fl hf
   rw [h1] at hf
   have h2 := (Rl.up (s := s) n (fun i hi => h i (by omega))).fl hf
   by_cases e : i = n
   · subst e
     rw [h2] at h1
     exact h1
   · exact up_fix n (fun i hi => h i (by omega)) hf i (by omega)
theorem put_fix {s : Tm} {n a d : Nat} (hs : s.2 = false) (h : putT s n a d = s) : s.1 n a d = true := by
 unfold putT at h
 split at h
 · assumption
 · have : (putT s n a d).2 = true := by unfold putT; rw [if_neg ‹_›]
   unfold putT at this
   rw [if_neg ‹_›] at this
   rw [← h] at hs
   cases hs
theorem through_rl {p : Pb} (s : Tm) {c m d e j : Nat} (hm : m < p.ns.length) (he : e < p.F.toNat) (hj : j ≤ p.F.toNat) : Rl p s (throughT c m d e j s) := Rl.up j fun i hi s => Rl.ite fun _ => Rl.put hm (by omega) he
section
variable {p : Pb} (ho : Ok p)
include ho
theorem pr_rng {k i : Nat} (hk : k < p.es.length) (hi : i < (gf p.fl k).length) : (gp (gf p.fl k) i).i.toNat < p.F.toNat ∧ (gp (gf p.fl k) i).o.toNat < p.F.toNat := by
 have := ho.pair (by rw [ho.len]; exact hk) (gp_mem hi)
 omega
theorem sd_rng {i : Nat} (hi : i < p.sd.length) : (gd p.sd i).n.toNat < p.ns.length ∧ (gd p.sd i).f.toNat < p.F.toNat := by
 have := ho.seed (gd_mem hi)
 omega
theorem ed_rng {k : Nat} (hk : k < p.es.length) : (ge p.es k).a.toNat < p.ns.length ∧ (ge p.es k).b.toNat < p.ns.length := by
 have := ho.edge hk
 omega
theorem f_pos : 0 < p.F.toNat := by have := ho.f1; omega
theorem seeded_rl (s : Tm) {j : Nat} (hj : j ≤ p.sd.length) : Rl p s (seededT p j s) := Rl.up j fun i hi s => Rl.ite fun _ => Rl.put (sd_rng ho (by omega)).1 (f_pos ho) (sd_rng ho (by omega)).2
theorem passedR_rl (s : Tm) {k a j : Nat} (hk : k < p.es.length) (ha : a < p.F.toNat) (hj : j ≤ (gf p.fl k).length) : Rl p s (passedR p k a j s) := Rl.up j fun i hi s => Rl.ite fun _ => Rl.put (ed_rng ho hk).2 ha (pr_rng ho hk (by omega)).2
theorem passed_rl (s : Tm) {k j : Nat} (hk : k < p.es.length) (hj : j ≤ p.F.toNat) : Rl p s (passedT p k j s) := Rl.up j fun i hi s => passedR_rl ho s hk (by omega) (Nat.le_refl _)
theorem enteredR_rl (s : Tm) {k a j : Nat} (hk : k < p.es.length) (hj : j ≤ (gf p.fl k).length) : Rl p s (enteredR p k a j s) := Rl.up j fun i hi s => Rl.ite fun _ => Rl.put (ed_rng ho hk).2 (pr_rng ho hk (by omega)).2 (pr_rng ho hk (by omega)).2
theorem entered_rl (s : Tm) {k j : Nat} (hk : k < p.es.length) : Rl p s (enteredT p k j s) := Rl.up j fun _i _hi s => enteredR_rl ho s hk (Nat.le_refl _)
end
def SndT (p : Pb) (s : Tm) : Prop := ∀ n a d, s.1 n a d = true → PE p a n d
theorem SndT.put {p : Pb} {s : Tm} (h : SndT p s) {n a d : Nat} (hp : PE p a n d) : SndT p (putT s n a d) := by
 unfold putT
 split
 · exact h
 · intro n' a' d' h'
   simp at h'
   rcases h' with h' | ⟨rfl, rfl, rfl⟩
   · exact h _ _ _ h'
   · exact hp
theorem SndT.up {p : Pb} {f : Nat → Tm → Tm} {s : Tm} (hs : SndT p s) : ∀ n, (∀ i, i < n → ∀ s, SndT p s → SndT p (f i s)) → SndT p (If.up n f s)
 | 0, _ => hs
 | n + 1, h => h n (by omega) _ (SndT.up hs n (fun i hi => h i (by omega)))
theorem SndT.ite {p : Pb} {s t : Tm} {c : Prop} [Decidable c] (hs : SndT p s) (h : c → SndT p t) : SndT p (if c then t else s) := by
 split
 · exact h ‹_›
 · exact hs
def unhT (p : Pb) (T : Nat → Nat → Nat → Bool) : Nat := (trip p.ns.length p.F.toNat).countP fun x => !T x.1 x.2.1 x.2.2
end If
end Go.Df
namespace Go.Df
open Go.RowKit
namespace If
open Sp
def lexR (a b : Pr) : Prop := a.i < b.i ∨ (a.i = b.i ∧ a.o < b.o)
theorem lex_irr {a : Pr} : ¬ lexR a a := by unfold lexR; omega
theorem lex_asym {a b : Pr} (h : lexR a b) : ¬ lexR b a := by unfold lexR at h ⊢; omega
theorem lex_eq : ∀ {a b : List Pr}, a.Pairwise lexR → b.Pairwise lexR → (∀ q, q ∈ a ↔ q ∈ b) → a = b
 | [], [], _, _, _ => rfl
 | [], y :: b, _, _, h => absurd ((h y).2 (by simp)) (by simp)
 | x :: a, [], _, _, h => absurd ((h x).1 (by simp)) (by simp)
 | x :: a, y :: b, ha, hb, h => by
   rw [List.pairwise_cons] at ha hb
   have e : x = y := by
     have h1 := (h x).1 (by simp)
     have h2 := (h y).2 (by simp)
     rcases List.mem_cons.1 h1 with e | h1
     · exact e
     · rcases List.mem_cons.1 h2 with e | h2
       · exact e.symm
       · exact absurd (hb.1 x h1) (lex_asym (ha.1 y h2))
   subst e
   congr 1
   refine lex_eq ha.2 hb.2 fun q => ?_
   constructor
   · intro hq
     rcases List.mem_cons.1 ((h q).1 (List.mem_cons_of_mem _ hq)) with e | h1
     · subst e; exact absurd (ha.1 q hq) lex_irr
     · exact h1
   · intro hq
     rcases List.mem_cons.1 ((h q).2 (List.mem_cons_of_mem _ hq)) with e | h1
     · subst e; exact absurd (hb.1 q hq) lex_irr
     · exact h1
def pairsBy (ks : List Int) (f : Int → List Int) : List Pr := ks.flatMap fun a => (f a).map fun d => ⟨a, d⟩
theorem pairsBy_mem {ks : List Int} {f : Int → List Int} {q : Pr} : q ∈ pairsBy ks f ↔ q.i ∈ ks ∧ q.o ∈ f q.i := by
 unfold pairsBy
 rw [List.mem_flatMap]
 constructor
 · rintro ⟨a, ha, h⟩
   obtain ⟨d, hd, rfl⟩ := List.mem_map.1 h
   exact ⟨ha, hd⟩
 · rintro ⟨h1, h2⟩
   exact ⟨q.i, h1, List.mem_map.2 ⟨q.o, h2, rfl⟩⟩
theorem pairsBy_asc {ks : List Int} {f : Int → List Int} (hk : ks.Pairwise (· < ·)) (hf : ∀ a ∈ ks, (f a).Pairwise (· < ·)) : (pairsBy ks f).Pairwise lexR := by
 unfold pairsBy
 rw [List.pairwise_flatMap]
 constructor
 · intro a ha
   rw [List.pairwise_map]
   exact (hf a ha).imp fun h => .inr ⟨rfl, h⟩
 · refine hk.imp ?_
   intro a b h x hx y hy
   obtain ⟨d, _, rfl⟩ := List.mem_map.1 hx
   obtain ⟨e, _, rfl⟩ := List.mem_map.1 hy
   exact .inl h
theorem take_snocN {α : Type} {l : List α} {i : Nat} {x : α} (h : l[i]? = some x) : l.take (i + 1) = l.take i ++ [x] := by
 rw [List.take_add_one, h]; rfl
theorem pairsBy_snoc {ks : List Int} {f : Int → List Int} {i : Nat} {x : Int} (h : ks[i]? = some x) : pairsBy (ks.take (i + 1)) f = pairsBy (ks.take i) f ++ (f x).map fun d => ⟨x, d⟩ := by
 rw [take_snocN h]
 unfold pairsBy
 rw [List.flatMap_append]
 simp
theorem pairsBy_pre {ks : List Int} {f : Int → List Int} {i : Nat} {x : Int} (h : ks[i]? = some x) : (pairsBy (ks.take i) f).length + (f x).length ≤ (pairsBy ks f).length := by
 have e : pairsBy ks f = pairsBy (ks.take (i + 1)) f ++ pairsBy (ks.drop (i + 1)) f := by
   unfold pairsBy
   rw [← List.flatMap_append, List.take_append_drop]
 rw [e, pairsBy_snoc h]
 simp
open Classical in
/-- The pairs of the path edges at a node, in their order. -/
noncomputable def pairL (p : Pb) (n : Nat) : List Pr := pairsBy (ofNats (List.range p.F.toNat)) fun a => ofNats ((List.range p.F.toNat).filter fun d => decide (PE p a.toNat n d))
theorem ofNats_asc {l : List Nat} (h : l.Pairwise (· < ·)) : (ofNats l).Pairwise (· < ·) := by
 unfold ofNats
 rw [List.pairwise_map]
 exact h.imp fun h => by omega
theorem ofNats_mem {l : List Nat} {y : Int} : y ∈ ofNats l ↔ ∃ d ∈ l, y = (d : Int) := by
 unfold ofNats
 rw [List.mem_map]
 exact ⟨fun ⟨d, h1, h2⟩ => ⟨d, h1, h2.symm⟩, fun ⟨d, h1, h2⟩ => ⟨d, h1, h2.symm⟩⟩
open Classical in
/-- The facts at a node for what a key says holds at the start. -/
noncomputable def keyF (p : Pb) (n : Nat) (a : Int) : List Int := if a < 0 then [] else ofNats ((List.range p.F.toNat).filter fun d => decide (PE p a.toNat n d))
def tabP (T : Nat → Nat → Nat → Bool) (n a d : Nat) : List Pr := ((List.range d).filter fun (y : Nat) => T n a y).map fun (y : Nat) => ⟨(a : Int), (y : Int)⟩
def tabQ (F : Nat) (T : Nat → Nat → Nat → Bool) (n a : Nat) : List Pr := (List.range a).flatMap fun b => tabP T n b F
theorem tabP_zero (T : Nat → Nat → Nat → Bool) (n a : Nat) : tabP T n a 0 = [] := rfl
theorem tabP_succ (T : Nat → Nat → Nat → Bool) (n a d : Nat) : tabP T n a (d + 1) = tabP T n a d ++ (if T n a d = true then [⟨(a : Int), (d : Int)⟩] else []) := by
 unfold tabP
 rw [List.range_succ, List.filter_append, List.map_append]
 congr 1
 by_cases h : T n a d = true <;> simp [h]
theorem tabP_len (T : Nat → Nat → Nat → Bool) (n a d : Nat) : (tabP T n a d).length ≤ d := by
 unfold tabP
 have := List.length_filter_le (fun d => T n a d) (List.range d)
 simpa using this
theorem tabQ_succ (F : Nat) (T : Nat → Nat → Nat → Bool) (n a : Nat) : tabQ F T n (a + 1) = tabQ F T n a ++ tabP T n a F := by
 unfold tabQ
 rw [List.range_succ, List.flatMap_append]
 simp
theorem tabQ_len (F : Nat) (T : Nat → Nat → Nat → Bool) (n : Nat) : ∀ a, (tabQ F T n a).length ≤ a * F
 | 0 => by simp [tabQ]
 | a + 1 => by
   rw [tabQ_succ, List.length_append, Nat.succ_mul]
   have := tabQ_len F T n a
   have := tabP_len T n a F
   omega
theorem tabQ_mem {F : Nat} {T : Nat → Nat → Nat → Bool} {n a : Nat} {q : Pr} : q ∈ tabQ F T n a ↔ ∃ b d : Nat, b < a ∧ d < F ∧ q = ⟨b, d⟩ ∧ T n b d = true := by
 unfold tabQ tabP
 rw [List.mem_flatMap]
 constructor
 · rintro ⟨b, hb, h⟩
   obtain ⟨d, hd, rfl⟩ := List.mem_map.1 h
   rw [List.mem_filter] at hd
   exact ⟨b, d, List.mem_range.1 hb, List.mem_range.1 hd.1, rfl, hd.2⟩
 · rintro ⟨b, d, hb, hd, rfl, h⟩
   exact ⟨b, List.mem_range.2 hb, List.mem_map.2 ⟨d, List.mem_filter.2 ⟨List.mem_range.2 hd, h⟩, rfl⟩⟩
theorem tabQ_asc (F : Nat) (T : Nat → Nat → Nat → Bool) (n a : Nat) : (tabQ F T n a).Pairwise lexR := by
 unfold tabQ
 rw [List.pairwise_flatMap]
 constructor
 · intro b _
   unfold tabP
   rw [List.pairwise_map]
   exact (List.pairwise_lt_range.filter _).imp fun h => .inr ⟨rfl, Int.ofNat_lt.2 h⟩
 · refine List.pairwise_lt_range.imp ?_
   intro b c h x hx y hy
   unfold tabP at hx hy
   obtain ⟨d, _, rfl⟩ := List.mem_map.1 hx
   obtain ⟨e, _, rfl⟩ := List.mem_map.1 hy
   exact .inl (by show (b : Int) < c; omega)
end If
end Go.Df
namespace Go.Df
open Go.RowKit
namespace If
open Sp
theorem gS_get {L : List Su} {i : Nat} (h : i < L.length) : L[i]? = some (gS L i) := by
 rw [List.getElem?_eq_getElem h]
 simp [gS, h]
theorem fn_asc {L : List Su} (h : ∀ i, i < L.length → fnErr L i = 0) {i : Nat} : ∀ d, i + d + 1 < L.length → (gS L i).f < (gS L (i + d + 1)).f := by
 have adj : ∀ j, j + 1 < L.length → (gS L j).f < (gS L (j + 1)).f := fun j hj => by
   have h1 := h (j + 1) hj
   unfold fnErr at h1
   split at h1
   · cases h1
   · split at h1
     · cases h1
     · rename_i h2
       rw [Nat.add_sub_cancel] at h2
       omega
 intro d
 induction d with
 | zero => intro hi; exact adj i hi
 | succ d ih =>
   intro hi
   have h1 := ih (by omega)
   have h2 := adj (i + d + 1) (by omega)
   rw [show i + (d + 1) + 1 = i + d + 1 + 1 by omega]
   omega
theorem exF_snoc {L : List Su} {i : Nat} (hi : i < L.length) (f : Int) : exF (L.take (i + 1)) f = exF (L.take i) f ++ (if (gS L i).f = f then (gS L i).x else []) := by
 unfold exF
 rw [take_snocN (gS_get hi), List.flatMap_append]
 simp
theorem thF_snoc {L : List Su} {i : Nat} (hi : i < L.length) (f : Int) : thF (L.take (i + 1)) f = thF (L.take i) f ++ (if (gS L i).f = f then (gS L i).y else []) := by
 unfold thF
 rw [take_snocN (gS_get hi), List.flatMap_append]
 simp
theorem exF_none {L : List Su} {f : Int} : ∀ i, i ≤ L.length → (∀ j, j < i → (gS L j).f ≠ f) → exF (L.take i) f = [] ∧ thF (L.take i) f = []
 | 0, _, _ => by simp [exF, thF]
 | i + 1, hi, h => by
   have h1 := exF_none i (by omega) (fun j hj => h j (by omega))
   rw [exF_snoc (by omega), thF_snoc (by omega), h1.1, h1.2, if_neg (h i (by omega)), if_neg (h i (by omega))]
   simp
theorem ord_of {F : Int} {l : List Pr} (h : lsErr F l = 0) : Ord l := ⟨(ls_ok.1 h).1, fun _ _ hij hj => pr_mono (ls_ok.1 h).2 hij hj⟩
structure SmC (w : World) (A : Option Addr) (n : Nat) (L : List Su) : Prop where
 len : L.length = n
 mem : 0 < n → ∃ b o, A = some ⟨b, o, none⟩ ∧ b < w.heap.size ∧ ∀ i, i < n → ∃ E ne ce T nt ct, w.cell? ⟨b, o + i * 3, none⟩ = some (.int .i64 (gS L i).f) ∧ w.cell? ⟨b, o + i * 3 + 1, none⟩ = some (.slice E ne ce) ∧ w.cell? ⟨b, o + i * 3 + 2, none⟩ = some (.slice T nt ct) ∧ Prs w E ne (gS L i).x ∧ Prs w T nt (gS L i).y ∧ ne ≤ ce ∧ nt ≤ ct
theorem SmC.sm {w : World} {A : Option Addr} {n : Nat} {L : List Su} (h : SmC w A n L) : SmW w A n L :=
 ⟨h.len, fun hn => by
   obtain ⟨b, o, e, hl, hc⟩ := h.mem hn
   refine ⟨b, o, e, hl, fun i hi => ?_⟩
   obtain ⟨E, ne, ce, T, nt, ct, h1, h2, h3, h4, h5, -, -⟩ := hc i hi
   exact ⟨E, ne, ce, T, nt, ct, h1, h2, h3, h4, h5⟩⟩
theorem SmC.later {w w' : World} {A : Option Addr} {n : Nat} {L : List Su} (h : SmC w A n L) (hb : Below w.heap.size w w') : SmC w' A n L :=
 ⟨h.len, fun hn => by
   obtain ⟨b, o, e, hl, hc⟩ := h.mem hn
   refine ⟨b, o, e, Nat.lt_of_lt_of_le hl hb.size, fun i hi => ?_⟩
   obtain ⟨E, ne, ce, T, nt, ct, h1, h2, h3, h4, h5, h6, h7⟩ := hc i hi
   exact ⟨E, ne, ce, T, nt, ct, (hb.cell (p := ⟨b, _, none⟩) hl).trans h1, (hb.cell (p := ⟨b, _, none⟩) hl).trans h2, (hb.cell (p := ⟨b, _, none⟩) hl).trans h3, h4.later hb, h5.later hb, h6, h7⟩⟩
structure MainIn (p : Px) (L : List Su) : Prop where
 ok : Ok p.toPb
 kn : p.kn = some L
 ini : p.ini = [(p.mn.toNat, 0)]
 sum : sumErr p.F L = 0
end If
end Go.Df
namespace Go.Proofs.YtooejoajojanjaaGreatDoor
open Go.RowKit Go.Df Go.Df.If
theorem SuV.step {w0 : World} {L : List Su} {i : Nat} {F : Int} {E T : Option Addr} {ne ce nt ct : Nat} (hok : sumErr F L = 0) (hi : i < L.length) (hp : Prs w0 E ne (gS L i).x) (hq : Prs w0 T nt (gS L i).y) (hc : ne ≤ ce) (hd : nt ≤ ct) {v g : Value → Value}
   (hv : ∀ f : Int, (Lit.int .i64 f).wf = true → SuV w0 (L.take i) f (v (.int .i64 f))) (g1 : g (.int .i64 (gS L i).f) = .agg #[.int .i64 (gS L i).f, .slice E ne ce, .slice T nt ct]) (g2 : ∀ x, x ≠ .int .i64 (gS L i).f → g x = v x) :
   ∀ f : Int, (Lit.int .i64 f).wf = true → SuV w0 (L.take (i + 1)) f (g (.int .i64 f)) := fun f hf => by
 obtain ⟨-, -, h3⟩ := sum_ok.1 hok
 by_cases e : (gS L i).f = f
 · have h4 := exF_none (L := L) (f := f) i (by omega) (fun j hj h => by
     have h5 := fn_asc (fun x hx => (h3 x hx).1) (i := j) (i - j - 1) (by omega)
     rw [show j + (i - j - 1) + 1 = i by omega] at h5
     omega)
   unfold SuV
   rw [exF_snoc hi, thF_snoc hi, h4.1, h4.2, if_pos e, if_pos e, List.nil_append, List.nil_append, ← e, g1]
   exact ⟨_, E, ne, ce, T, nt, ct, rfl, hc, hd, hp, hq, ord_of (h3 i hi).2.1, ord_of (h3 i hi).2.2⟩
 · have h4 := hv f hf
   unfold SuV at h4 ⊢
   rw [exF_snoc hi, thF_snoc hi, if_neg e, if_neg e, List.append_nil, List.append_nil, g2 _ (fun h => by injection h with _ h; exact e h.symm)]
   exact h4
end Go.Proofs.YtooejoajojanjaaGreatDoor
namespace Go.Df
open Go.RowKit
structure Gr (w : World) (A1 : Option Addr) (n1 : Nat) (A2 : Option Addr) (n2 : Nat) (ns : List Sp.Nd) (es : List Sp.Ed) : Prop where
 nd : Nds w A1 n1 ns
 ed : Eds w A2 n2 es
 wn : ∀ j, j < n1 → (Lit.int .i64 (gn ns j).f).wf = true
 we : ∀ j, j < n2 → (Lit.int .i64 (ge es j).a).wf = true ∧ (Lit.int .i64 (ge es j).b).wf = true
theorem Gr.later {w w' : World} {A1 A2 : Option Addr} {n1 n2 : Nat} {ns : List Sp.Nd} {es : List Sp.Ed} (h : Gr w A1 n1 A2 n2 ns es) (hb : Below w.heap.size w w') : Gr w' A1 n1 A2 n2 ns es := ⟨h.nd.later hb, h.ed.later hb, h.wn, h.we⟩
theorem Gr.kept {w w' : World} {A1 A2 : Option Addr} {n1 n2 : Nat} {ns : List Sp.Nd} {es : List Sp.Ed} (h : Gr w A1 n1 A2 n2 ns es) (hb : Kept [] w w') : Gr w' A1 n1 A2 n2 ns es := h.later hb.toBelow
end Go.Df
namespace Go.Proofs.YtooejoajojanjaaGreatDoor
open Go.RowKit Go.Df
end Go.Proofs.YtooejoajojanjaaGreatDoor
namespace Go.Df
open Go.RowKit Go.ChangeShapes Go.WideShapes
section
variable {H : Type} {enc : TypeId × Value → H} {P : Program} {w : World} {base : Nat} {held : Bool}
theorem addr_add_add (a : Addr) (x y : Nat) : (a.add x).add y = a.add (x + y) := by
 by_cases hx : x = 0 <;> by_cases hy : y = 0 <;> simp [Addr.add, hx, hy, Nat.add_assoc]
theorem open_rowsI {t e : TypeId} {k fuel : Nat} {v : Value} {x : DataW H × List MemPlace} (ht : P.underlying t = some (.slice e)) (hC : P.cellsOf e = k) (hk : 0 < k)
   (hel : ∀ n cs' y, DataW.trod enc P w base (fun _ => true) held n e cs' = some y → ∃ zs : List Int, cs' = zs.map (Value.int .i64) ∧ ∀ q, q < k → (Lit.int .i64 (gi zs q)).wf = true)
   (h : DataW.trod enc P w base (fun _ => true) held fuel t [v] = some x) :
   ∃ A n c, ∃ g : Nat → Nat → Int, v = .slice A n c ∧ n ≤ c ∧ (0 < n → ∃ b o, A = some ⟨b, o, none⟩ ∧ b < w.heap.size ∧ ∀ i, i < n → ∀ q, q < k → w.cell? ⟨b, o + i * k + q, none⟩ = some (.int .i64 (g i q))) ∧ ∀ i, i < n → ∀ q, q < k → (Lit.int .i64 (g i q)).wf = true := by
 rcases Go.Deep.open_slice ht h with ⟨h0, _⟩ | ⟨a, len, cap, m, n, D, Pl, hcs, hbb, hl, hm, hmm, hx, hi⟩
 · injection h0 with h0
   exact ⟨none, 0, 0, fun _ _ => 0, h0, Nat.le_refl _, fun h => absurd h (by omega), fun i hi => absurd hi (by omega)⟩
 · injection hcs with hcs
   subst hcs
   have hread : ∀ i, i < len → ∃ zs : List Int, ∀ q, q < k → w.cell? (a.add (i * k + q)) = some (.int .i64 (gi zs q)) ∧ (Lit.int .i64 (gi zs q)).wf = true := by
     intro i hil
     obtain ⟨cs', hc, ht'⟩ := hi i (by rw [hmm]; simp; omega)
     rw [hC] at hc
     obtain ⟨zs, rfl, hw⟩ := hel _ _ _ ht'
     refine ⟨zs, fun q hq => ⟨?_, hw q hq⟩⟩
     obtain ⟨h1, h2, h3⟩ := World.cells?_some hc
     have h4 := h3 q hq
     have h5 : q < zs.length := by simp at h2; omega
     rw [map_gi h5] at h4
     have e1 : (a.add (i * k)).add q = a.add (i * k + q) := addr_add_add a _ _
     rw [← e1]
     exact h4
   have hex : ∃ f : Nat → List Int, ∀ i, i < len → ∀ q, q < k → w.cell? (a.add (i * k + q)) = some (.int .i64 (gi (f i) q)) ∧ (Lit.int .i64 (gi (f i) q)).wf = true :=
     ⟨fun i => if hil : i < len then (hread i hil).choose else [], fun i hil => by simp only [dif_pos hil]; exact (hread i hil).choose_spec⟩
   obtain ⟨f, hf⟩ := hex
   refine ⟨some a, len, cap, fun i q => gi (f i) q, rfl, hl, fun hp => ?_, fun i hi q hq => (hf i hi q hq).2⟩
   obtain ⟨b, o, sp⟩ := a
   have h0 := (hf 0 hp 0 hk).1
   have hsp : sp = none := by
     cases sp with
     | none => rfl
     | some s =>
       exfalso
       simp only [World.cell?, Addr.add] at h0
       split at h0 <;> simp at h0
   subst hsp
   refine ⟨b, o, rfl, cell_lt (p := ⟨b, o, none⟩) (by have h9 := h0; rw [add_lit] at h9; simpa using h9), fun i hil q hq => ?_⟩
   have h8 := (hf i hil q hq).1
   rw [add_lit, ← Nat.add_assoc] at h8
   exact h8
theorem cells3 {cs : List Value} {z0 z1 z2 : Int} (hl : cs.length = 3) (h0 : (cs.drop 0).take 1 = [.int .i64 z0]) (h1 : (cs.drop 1).take 1 = [.int .i64 z1]) (h2 : (cs.drop 2).take 1 = [.int .i64 z2]) : cs = [z0, z1, z2].map (Value.int .i64) := by
 match cs, hl with
 | [a, b, c], _ => simp at h0 h1 h2; simp [h0, h1, h2]
theorem cells4 {cs : List Value} {z0 z1 z2 z3 : Int} (hl : cs.length = 4) (h0 : (cs.drop 0).take 1 = [.int .i64 z0]) (h1 : (cs.drop 1).take 1 = [.int .i64 z1]) (h2 : (cs.drop 2).take 1 = [.int .i64 z2]) (h3 : (cs.drop 3).take 1 = [.int .i64 z3]) : cs = [z0, z1, z2, z3].map (Value.int .i64) := by
 match cs, hl with
 | [a, b, c, d], _ => simp at h0 h1 h2 h3; simp [h0, h1, h2, h3]
theorem gn_mk {n i : Nat} (h : i < n) (f : Nat → Sp.Nd) : gn ((List.range n).map f) i = f i := by
 rw [gn_lt (by simpa using h)]
 simp
theorem ge_mk {n i : Nat} (h : i < n) (f : Nat → Sp.Ed) : ge ((List.range n).map f) i = f i := by
 rw [ge_lt (by simpa using h)]
 simp
theorem gr_mk {A1 A2 : Option Addr} {n1 n2 : Nat} {g1 g2 : Nat → Nat → Int}
   (c1 : 0 < n1 → ∃ b o, A1 = some ⟨b, o, none⟩ ∧ b < w.heap.size ∧ ∀ i, i < n1 → ∀ q, q < 3 → w.cell? ⟨b, o + i * 3 + q, none⟩ = some (.int .i64 (g1 i q))) (w1 : ∀ i, i < n1 → ∀ q, q < 3 → (Lit.int .i64 (g1 i q)).wf = true)
   (c2 : 0 < n2 → ∃ b o, A2 = some ⟨b, o, none⟩ ∧ b < w.heap.size ∧ ∀ i, i < n2 → ∀ q, q < 4 → w.cell? ⟨b, o + i * 4 + q, none⟩ = some (.int .i64 (g2 i q))) (w2 : ∀ i, i < n2 → ∀ q, q < 4 → (Lit.int .i64 (g2 i q)).wf = true) :
   Gr w A1 n1 A2 n2 ((List.range n1).map (fun i => ⟨g1 i 0, g1 i 1, g1 i 2⟩)) ((List.range n2).map (fun i => ⟨g2 i 0, g2 i 1, g2 i 2, g2 i 3⟩)) := by
 refine ⟨⟨by simp, fun h => ?_⟩, ⟨by simp, fun h => ?_⟩, fun j hj => ?_, fun j hj => ?_⟩
 · obtain ⟨b, o, e, hl, hc⟩ := c1 h
   refine ⟨b, o, e, hl, fun i hi => ?_⟩
   rw [gn_mk hi]
   exact ⟨hc i hi 0 (by omega), hc i hi 1 (by omega), hc i hi 2 (by omega)⟩
 · obtain ⟨b, o, e, hl, hc⟩ := c2 h
   refine ⟨b, o, e, hl, fun i hi => ?_⟩
   rw [ge_mk hi]
   exact ⟨hc i hi 0 (by omega), hc i hi 1 (by omega), hc i hi 2 (by omega), hc i hi 3 (by omega)⟩
 · rw [gn_mk hj]
   exact w1 j hj 0 (by omega)
 · rw [ge_mk hj]
   exact ⟨w2 j hj 0 (by omega), w2 j hj 1 (by omega)⟩
end
end Go.Df
namespace Go.Proofs.YtooejoajojanjaaGreatDoor
open Go.RowKit Go.ChangeShapes Go.WideShapes Go.Joins Go.Df
theorem open_node {H : Type} {enc : TypeId × Value → H} {w : World} {base : Nat} {held : Bool} (n : Nat) (cs' : List Value) (y : DataW H × List MemPlace) (h : DataW.trod enc Tryz.prog w base (fun _ => true) held n 111 cs' = some y) : ∃ zs : List Int, cs' = zs.map (Value.int .i64) ∧ ∀ q, q < 3 → (Lit.int .i64 (gi zs q)).wf = true := by
 obtain ⟨y0, y1, y2, m, -, hl, h0, h1, h2⟩ := Go.Deep.trod_struct3 Tryz.underlying111 h
 obtain ⟨z0, e0, -, w0⟩ := DataW.trod_int Tryz.underlying3 h0
 obtain ⟨z1, e1, -, w1⟩ := DataW.trod_int Tryz.underlying3 h1
 obtain ⟨z2, e2, -, w2⟩ := DataW.trod_int Tryz.underlying3 h2
 have hc3 : Tryz.prog.cellsOf 111 = 3 := by kernel_rfl
 have hc1 : Tryz.prog.cellsOf 3 = 1 := by kernel_rfl
 rw [hc3] at hl
 dsimp only at e0 e1 e2
 rw [hc1] at e0 e1 e2
 refine ⟨[z0, z1, z2], cells3 hl e0 e1 e2, fun q hq => ?_⟩
 match q, hq with
 | 0, _ => exact w0
 | 1, _ => exact w1
 | 2, _ => exact w2
theorem open_edge {H : Type} {enc : TypeId × Value → H} {w : World} {base : Nat} {held : Bool} (n : Nat) (cs' : List Value) (y : DataW H × List MemPlace) (h : DataW.trod enc Tryz.prog w base (fun _ => true) held n 159 cs' = some y) : ∃ zs : List Int, cs' = zs.map (Value.int .i64) ∧ ∀ q, q < 4 → (Lit.int .i64 (gi zs q)).wf = true := by
 obtain ⟨y0, y1, y2, y3, m, -, hl, h0, h1, h2, h3⟩ := trod_struct4 Tryz.underlying159 h
 obtain ⟨z0, e0, -, w0⟩ := DataW.trod_int Tryz.underlying3 h0
 obtain ⟨z1, e1, -, w1⟩ := DataW.trod_int Tryz.underlying3 h1
 obtain ⟨z2, e2, -, w2⟩ := DataW.trod_int Tryz.underlying3 h2
 obtain ⟨z3, e3, -, w3⟩ := DataW.trod_int Tryz.underlying3 h3
 have hc3 : Tryz.prog.cellsOf 159 = 4 := by kernel_rfl
 have hc1 : Tryz.prog.cellsOf 3 = 1 := by kernel_rfl
 rw [hc3] at hl
 dsimp only at e0 e1 e2 e3
 rw [hc1] at e0 e1 e2 e3
 refine ⟨[z0, z1, z2, z3], cells4 hl e0 e1 e2 e3, fun q hq => ?_⟩
 match q, hq with
 | 0, _ => exact w0
 | 1, _ => exact w1
 | 2, _ => exact w2
 | 3, _ => exact w3
theorem open_gr {H : Type} {enc : TypeId × Value → H} {w : World} {base : Nat} {held : Bool} {f1 f2 : Nat} {v1 v2 : Value} {x1 x2 : DataW H × List MemPlace}
   (h1 : DataW.trod enc Tryz.prog w base (fun _ => true) held f1 42 [v1] = some x1) (h2 : DataW.trod enc Tryz.prog w base (fun _ => true) held f2 43 [v2] = some x2) :
   ∃ A1 n1 c1 A2 n2 c2 ns es, v1 = .slice A1 n1 c1 ∧ v2 = .slice A2 n2 c2 ∧ Gr w A1 n1 A2 n2 ns es := by
 obtain ⟨A1, n1, c1, g1, rfl, -, k1, w1⟩ := open_rowsI Tryz.underlying42 (k := 3) (by kernel_rfl) (by omega) open_node h1
 obtain ⟨A2, n2, c2, g2, rfl, -, k2, w2⟩ := open_rowsI Tryz.underlying43 (k := 4) (by kernel_rfl) (by omega) open_edge h2
 exact ⟨A1, n1, c1, A2, n2, c2, _, _, rfl, rfl, gr_mk k1 w1 k2 w2⟩
end Go.Proofs.YtooejoajojanjaaGreatDoor
namespace Go.Df
open Go.RowKit
namespace If
def gbl (l : List Bool) (i : Nat) : Bool := l.getD i false
def gil (l : List (List Int)) (i : Nat) : List Int := l.getD i []
def Bls (w : World) (A : Option Addr) (n : Nat) (l : List Bool) : Prop :=
 l.length = n ∧ (0 < n → ∃ b o, A = some ⟨b, o, none⟩ ∧ b < w.heap.size ∧ ∀ i, i < n → w.cell? ⟨b, o + i, none⟩ = some (.bool (gbl l i)))
theorem Bls.later {w w' : World} {A : Option Addr} {n : Nat} {l : List Bool} (h : Bls w A n l) (hb : Below w.heap.size w w') : Bls w' A n l :=
 ⟨h.1, fun hn => by
   obtain ⟨b, o, e, hl, hc⟩ := h.2 hn
   exact ⟨b, o, e, Nat.lt_of_lt_of_le hl hb.size, fun i hi => (hb.cell (p := ⟨b, _, none⟩) hl).trans (hc i hi)⟩⟩
def IntsR (w : World) (A : Option Addr) (n : Nat) (ls : List (List Int)) : Prop :=
 ls.length = n ∧ (0 < n → ∃ b o, A = some ⟨b, o, none⟩ ∧ b < w.heap.size ∧ ∀ i, i < n → ∃ Ai ni ci, w.cell? ⟨b, o + i, none⟩ = some (.slice Ai ni ci) ∧ Ints w Ai ni (gil ls i) ∧ ni ≤ 9223372036854775807)
theorem IntsR.later {w w' : World} {A : Option Addr} {n : Nat} {ls : List (List Int)} (h : IntsR w A n ls) (hb : Below w.heap.size w w') : IntsR w' A n ls :=
 ⟨h.1, fun hn => by
   obtain ⟨b, o, e, hl, hc⟩ := h.2 hn
   refine ⟨b, o, e, Nat.lt_of_lt_of_le hl hb.size, fun i hi => ?_⟩
   obtain ⟨Ai, ni, ci, h1, h2, h3⟩ := hc i hi
   exact ⟨Ai, ni, ci, (hb.cell (p := ⟨b, _, none⟩) hl).trans h1, h2.later hb, h3⟩⟩
def holdsS (re : List Bool) (fs : List (List Int)) (node fact : Int) : Bool :=
 if node < 0 then false else if fact = 0 then decide (node.toNat < re.length) && gbl re node.toNat else decide (node.toNat < fs.length) && decide (fact ∈ gil fs node.toNat)
end If
end Go.Df
namespace Go.Proofs.YtooejoajojanjaaGreatDoor
open Go.RowKit Go.Df Go.Df.If
attribute [local go_sem ↓] Go.wp_at_zero Go.wp_at_succ
end Go.Proofs.YtooejoajojanjaaGreatDoor
namespace Go.Df
open Go.RowKit Go.ChangeShapes Go.WideShapes
section
variable {H : Type} {enc : TypeId × Value → H} {P : Program} {w : World} {base : Nat} {held : Bool}
theorem open_rowsC {t e : TypeId} {fuel : Nat} {v : Value} {x : DataW H × List MemPlace} (ht : P.underlying t = some (.slice e)) (hC : P.cellsOf e = 1)
   (h : DataW.trod enc P w base (fun _ => true) held fuel t [v] = some x) :
   ∃ A n c, v = .slice A n c ∧ n ≤ c ∧ (0 < n → ∃ b o, A = some ⟨b, o, none⟩ ∧ b < w.heap.size ∧ ∀ i, i < n → ∃ u m y, w.cell? ⟨b, o + i, none⟩ = some u ∧ DataW.trod enc P w base (fun _ => true) held m e [u] = some y) := by
 rcases Go.Deep.open_slice ht h with ⟨h0, _⟩ | ⟨a, len, cap, m, n, D, Pl, hcs, hbb, hl, hm, hmm, hx, hi⟩
 · injection h0 with h0
   exact ⟨none, 0, 0, h0, Nat.le_refl _, fun h => absurd h (by omega)⟩
 · injection hcs with hcs
   subst hcs
   have hread : ∀ i, i < len → ∃ u m y, w.cell? (a.add i) = some u ∧ DataW.trod enc P w base (fun _ => true) held m e [u] = some y := by
     intro i hil
     obtain ⟨cs', hc, ht'⟩ := hi i (by rw [hmm]; simp; omega)
     rw [hC] at hc
     obtain ⟨h1, h2, h3⟩ := World.cells?_some hc
     match cs', h2 with
     | [u], _ =>
       have h4 := h3 0 (by omega)
       rw [addr_add_add, Nat.mul_one] at h4
       exact ⟨u, _, _, h4, ht'⟩
   refine ⟨some a, len, cap, rfl, hl, fun hp => ?_⟩
   obtain ⟨b, o, sp⟩ := a
   obtain ⟨u0, m0, y0, h0, -⟩ := hread 0 hp
   have hsp : sp = none := by
     cases sp with
     | none => rfl
     | some s =>
       exfalso
       simp only [World.cell?, Addr.add] at h0
       split at h0 <;> simp at h0
   subst hsp
   refine ⟨b, o, rfl, cell_lt (p := ⟨b, o, none⟩) (by have h9 := h0; rw [add_lit] at h9; simpa using h9), fun i hil => ?_⟩
   obtain ⟨u, m1, y, h1, h2⟩ := hread i hil
   rw [add_lit] at h1
   exact ⟨u, m1, y, h1, h2⟩
end
theorem slice_len {H : Type} {enc : TypeId × Value → H} {P : Program} {w : World} {base : Nat} {held : Bool} {t e : TypeId} {fuel : Nat} {A : Option Addr} {n c : Nat} {x : DataW H × List MemPlace} (ht : P.underlying t = some (.slice e))
   (h : DataW.trod enc P w base (fun _ => true) held fuel t [.slice A n c] = some x) : n ≤ 9223372036854775807 := by
 rcases Go.Deep.open_slice ht h with ⟨h0, _⟩ | ⟨a, len, cap, m, k, D, Pl, hcs, hbb, hl, hm, hmm, hx, hi⟩
 · injection h0 with h0
   injection h0 with h1 h2 h3
   omega
 · injection hcs with hcs
   injection hcs with h1 h2 h3
   unfold maxLen at hm
   omega
theorem cells2 {cs : List Value} {z0 z1 : Int} (hl : cs.length = 2) (h0 : (cs.drop 0).take 1 = [.int .i64 z0]) (h1 : (cs.drop 1).take 1 = [.int .i64 z1]) : cs = [z0, z1].map (Value.int .i64) := by
 match cs, hl with
 | [a, b], _ => simp at h0 h1; simp [h0, h1]
namespace If
theorem gp_mk {n i : Nat} (h : i < n) (f : Nat → Pr) : gp ((List.range n).map f) i = f i := by simp [gp, h]
theorem gd_mk {n i : Nat} (h : i < n) (f : Nat → Sd) : gd ((List.range n).map f) i = f i := by simp [gd, h]
theorem gf_mk {n i : Nat} (h : i < n) (f : Nat → List Pr) : gf ((List.range n).map f) i = f i := by simp [gf, h]
end If
end Go.Df
namespace Go.Proofs.YtooejoajojanjaaGreatDoor
open Go.RowKit Go.ChangeShapes Go.WideShapes Go.Joins Go.Df Go.Df.If
theorem hc1 : Tryz.prog.cellsOf 3 = 1 := by kernel_rfl
section
variable {H : Type} {enc : TypeId × Value → H} {w : World} {base : Nat} {held : Bool}
theorem open_pair (n : Nat) (cs' : List Value) (y : DataW H × List MemPlace) (h : DataW.trod enc Tryz.prog w base (fun _ => true) held n 72 cs' = some y) : ∃ zs : List Int, cs' = zs.map (Value.int .i64) ∧ ∀ q, q < 2 → (Lit.int .i64 (gi zs q)).wf = true := by
 obtain ⟨y0, y1, m, hx, hl, h0, h1⟩ := Go.ChangeShapes.trod_struct2 Tryz.underlying72 h
 obtain ⟨z0, e0, f0, w0⟩ := DataW.trod_int Tryz.underlying3 h0
 obtain ⟨z1, e1, f1, w1⟩ := DataW.trod_int Tryz.underlying3 h1
 have hc3 : Tryz.prog.cellsOf 72 = 2 := by kernel_rfl
 rw [hc3] at hl
 dsimp only at e0 e1
 rw [hc1] at e0 e1
 refine ⟨[z0, z1], cells2 hl e0 e1, fun q hq => ?_⟩
 match q, hq with
 | 0, _ => exact w0
 | 1, _ => exact w1
theorem open_seed (n : Nat) (cs' : List Value) (y : DataW H × List MemPlace) (h : DataW.trod enc Tryz.prog w base (fun _ => true) held n 117 cs' = some y) : ∃ zs : List Int, cs' = zs.map (Value.int .i64) ∧ ∀ q, q < 2 → (Lit.int .i64 (gi zs q)).wf = true := by
 obtain ⟨y0, y1, m, hx, hl, h0, h1⟩ := Go.ChangeShapes.trod_struct2 Tryz.underlying117 h
 obtain ⟨z0, e0, f0, w0⟩ := DataW.trod_int Tryz.underlying3 h0
 obtain ⟨z1, e1, f1, w1⟩ := DataW.trod_int Tryz.underlying3 h1
 have hc3 : Tryz.prog.cellsOf 117 = 2 := by kernel_rfl
 rw [hc3] at hl
 dsimp only at e0 e1
 rw [hc1] at e0 e1
 refine ⟨[z0, z1], cells2 hl e0 e1, fun q hq => ?_⟩
 match q, hq with
 | 0, _ => exact w0
 | 1, _ => exact w1
theorem open_pflows {fuel : Nat} {v : Value} {x : DataW H × List MemPlace} (h : DataW.trod enc Tryz.prog w base (fun _ => true) held fuel 46 [v] = some x) : ∃ A n c ls, v = .slice A n c ∧ n ≤ c ∧ Flw w A n ls := by
 obtain ⟨A, n, c, rfl, hnc, hrow⟩ := open_rowsC Tryz.underlying46 (by kernel_rfl) h
 have hex : ∀ i, ∃ l : List Pr, ∀ b o, A = some ⟨b, o, none⟩ → i < n → ∃ Ai ni ci, w.cell? ⟨b, o + i, none⟩ = some (.slice Ai ni ci) ∧ ni ≤ ci ∧ Prs w Ai ni l := by
   intro i
   by_cases hi : i < n
   · obtain ⟨b, o, rfl, hb, hc⟩ := hrow (by omega)
     obtain ⟨u, m, y, h1, h2⟩ := hc i hi
     obtain ⟨Ai, ni, ci, g, rfl, hni, k1, -⟩ := open_rowsI Tryz.underlying95 (k := 2) (by kernel_rfl) (by omega) open_pair h2
     refine ⟨(List.range ni).map (fun j => ⟨g j 0, g j 1⟩), fun b' o' e' _ => ?_⟩
     injection e' with e'
     injection e' with e1 e2
     subst e1 e2
     refine ⟨Ai, ni, ci, h1, hni, by simp, fun h0 => ?_⟩
     obtain ⟨b2, o2, rfl, hl2, hc2⟩ := k1 h0
     refine ⟨b2, o2, rfl, hl2, fun j hj => ?_⟩
     rw [gp_mk hj]
     exact ⟨hc2 j hj 0 (by omega), hc2 j hj 1 (by omega)⟩
   · exact ⟨[], fun _ _ _ h => absurd h hi⟩
 refine ⟨A, n, c, (List.range n).map (fun i => (hex i).choose), rfl, hnc, by simp, fun h0 => ?_⟩
 obtain ⟨b, o, rfl, hb, -⟩ := hrow h0
 refine ⟨b, o, rfl, hb, fun i hi => ?_⟩
 rw [gf_mk hi]
 exact (hex i).choose_spec b o rfl hi
theorem open_pseeds {fuel : Nat} {v : Value} {x : DataW H × List MemPlace} (h : DataW.trod enc Tryz.prog w base (fun _ => true) held fuel 47 [v] = some x) : ∃ A n c sd, v = .slice A n c ∧ n ≤ c ∧ n ≤ 9223372036854775807 ∧ Sds w A n sd := by
 obtain ⟨A, n, c, g, rfl, hnc, k1, -⟩ := open_rowsI Tryz.underlying47 (k := 2) (by kernel_rfl) (by omega) open_seed h
 have hn := slice_len Tryz.underlying47 h
 refine ⟨A, n, c, (List.range n).map (fun j => ⟨g j 0, g j 1⟩), rfl, hnc, hn, by simp, fun h0 => ?_⟩
 obtain ⟨b2, o2, rfl, hl2, hc2⟩ := k1 h0
 refine ⟨b2, o2, rfl, hl2, fun j hj => ?_⟩
 rw [gd_mk hj]
 exact ⟨hc2 j hj 0 (by omega), hc2 j hj 1 (by omega)⟩
set_option maxRecDepth 100000 in
/-- A problem that came in. -/
theorem open_pb {r : Reach} {b0 : Nat} {v : Value} {d : DataW H} {p : List MemPlace} (hv : Value.okWide Tryz.prog w r b0 49 v) (h : DataW.Trod enc Tryz.prog w base (fun _ => true) held 49 v d p) :
   ∃ A1 n1 c1 A2 n2 c2 mn F A3 n3 c3 A4 n4 c4 ns es ls sd, v = .agg #[.slice A1 n1 c1, .slice A2 n2 c2, .int .i64 mn, .int .i64 F, .slice A3 n3 c3, .slice A4 n4 c4] ∧ Gr w A1 n1 A2 n2 ns es ∧ Flw w A3 n3 ls ∧ Sds w A4 n4 sd ∧ n4 ≤ 9223372036854775807 ∧ n3 ≤ c3 ∧ n4 ≤ c4 := by
 obtain ⟨cs, rfl, hsz⟩ := okWide_struct Tryz.underlying49 hv
 have hC : Tryz.prog.cellsOf 49 = 6 := by kernel_rfl
 have hS : Tryz.prog.cellsOf 45 = 3 := by kernel_rfl
 have hF : Tryz.prog.cellsOf 46 = 1 := by kernel_rfl
 have hV : Tryz.prog.cellsOf 47 = 1 := by kernel_rfl
 have hN : Tryz.prog.cellsOf 42 = 1 := by kernel_rfl
 have hE : Tryz.prog.cellsOf 43 = 1 := by kernel_rfl
 rw [hC] at hsz
 obtain ⟨l⟩ := cs
 match l, hsz with
 | [v0, v1, v2, v3, v4, v5], _ =>
 obtain ⟨fuel, hf⟩ := h
 obtain ⟨y0, y1, y2, y3, m, -, -, h0, h1, h2, h3⟩ := trod_struct4 Tryz.underlying49 hf
 simp only [Value.cells, hS, hc1, hF, hV, List.drop_zero, List.drop_succ_cons, List.take_succ_cons, List.take_zero] at h0 h1 h2 h3
 obtain ⟨x0, x1, x2, m', -, -, g0, g1, g2⟩ := Go.Deep.trod_struct3 Tryz.underlying45 h0
 simp only [hN, hE, hc1, List.drop_zero, List.drop_succ_cons, List.take_succ_cons, List.take_zero] at g0 g1 g2
 obtain ⟨A1, n1, c1, A2, n2, c2, ns, es, rfl, rfl, hg⟩ := open_gr g0 g1
 obtain ⟨mn, e2, -, -⟩ := DataW.trod_int Tryz.underlying3 g2
 injection e2 with e2
 subst e2
 obtain ⟨F, e3, -, -⟩ := DataW.trod_int Tryz.underlying3 h1
 injection e3 with e3
 subst e3
 obtain ⟨A3, n3, c3, ls, rfl, hn3, hfl⟩ := open_pflows h2
 obtain ⟨A4, n4, c4, sd, rfl, hnc, hn4, hsd⟩ := open_pseeds h3
 exact ⟨A1, n1, c1, A2, n2, c2, mn, F, A3, n3, c3, A4, n4, c4, ns, es, ls, sd, rfl, hg, hfl, hsd, hn4, hn3, hnc⟩
end
end Go.Proofs.YtooejoajojanjaaGreatDoor
