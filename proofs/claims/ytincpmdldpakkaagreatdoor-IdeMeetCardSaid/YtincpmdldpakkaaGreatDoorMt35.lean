/- Texts: Aq Cy Cz Al Am Cg. -/
import Derived.Test.YtincpmdldpakkaaGreatDoorMt27
import Derived.Test.YtincpmdldpakkaaGreatDoorMt34
import Derived.Test.YtincpmdldpakkaaGreatDoorMt18
import Derived.Test.YtincpmdldpakkaaGreatDoorMt28
import Derived.Test.YtincpmdldpakkaaGreatDoorMt31
namespace Go.Df
open Go.RowKit
theorem made_two (v : Value) (n : Nat) : madeCells #[v,v] n = (List.replicate n v).toArray:=by
 apply Array.ext_getElem?
 intro j
 rcases Nat.lt_or_ge j n with h | h
 · have h2 : j % 2 = 0 ∨ j % 2 = 1:=by omega
   rcases h2 with h2 | h2 <;> simp [madeCells,h,h2]
 · simp [madeCells,h]
theorem run_make2 {P : Program} {t e : TypeId} {i : TypeInfo} {z v : Value} {bytes : Nat} (ht : P.underlying t = some (.slice e)) (hi : P.info? e = some i) (hz : i.zero = some z) (hsize : i.size = 2) (hby : i.bytes = bytes) (hzc : z.cells = #[v,v]) (n : Nat) (hbytes : bytes * n ≤ 281474976710656) (h63 : n ≤ 9223372036854775807) (M : Array Value) (hM : (List.replicate (n * 2) v).toArray = M) (w : World) :
   (Instr.makeSlice t (.int .i64 (n : Int)) (.int .i64 (n : Int))).run P w = .ok (.slice (some ⟨w.heap.size,0,none⟩) n n) (w.alloc (.cells M e)):=by
 subst hby
 have hrun:=run_make (P:=P) w t e i z ht hi hz .i64 .i64 (n : Int) (n : Int) (by omega) (Int.le_refl _) (by rw [← Int.natCast_mul];omega) (by omega)
 simp only [Int.toNat_natCast,hsize,hzc,made_two,hM] at hrun
 exact hrun
namespace Iv
open Sp
def Vr (w : World) (g f : Nat) (v : Nat → U) : Prop:=g < w.heap.size ∧ (∀ a,a < f → w.cell? ⟨g,a * 2,none⟩ = some (.int .i64 (v a).1.k) ∧ w.cell? ⟨g,a * 2 + 1,none⟩ = some (.int .i64 (v a).1.n)) ∧ ∀ i,w.frozen? ⟨g,i,none⟩ = false
theorem Vr.kept {w w' : World} {g f : Nat} {v : Nat → U} {X : List Nat} (h : Vr w g f v) (hk : Kept X w w') (hg : g ∉ X) : Vr w' g f v :=
 ⟨Nat.lt_of_lt_of_le h.1 hk.size,fun a ha => ⟨(hk.cell g _ h.1 hg).trans (h.2.1 a ha).1,(hk.cell g _ h.1 hg).trans (h.2.1 a ha).2⟩,fun i => (hk.frozen g i h.1 hg).trans (h.2.2 i)⟩
theorem Vr.put {w : World} {g f : Nat} {v : Nat → U} (h : Vr w g f v) {d : Nat} (hd : d < f) (y : U) {i : Nat} (hi : i = d * 2) :
   Vr ((w.setCell ⟨g,i,none⟩ (.int .i64 y.1.k)).setCell ⟨g,i + 1,none⟩ (.int .i64 y.1.n)) g f (fun a => if a = d then y else v a):=by
 subst hi
 have hc:=h.2.1 d hd
 refine ⟨by simpa [World.setCell] using h.1,fun a ha => ?_,fun i => by simpa using h.2.2 i⟩
 by_cases e : a = d
 · subst e
   dsimp only
   rw [if_pos rfl]
   have s1:=set_same (v:=.int .i64 y.1.k) hc.1
   have c2 : (w.setCell ⟨g,a * 2,none⟩ (.int .i64 y.1.k)).cell? ⟨g,a * 2 + 1,none⟩ = some (.int .i64 (v a).1.n):=(set_other (.inr (by omega))).trans hc.2
   have s2:=set_same (v:=.int .i64 y.1.n) c2
   exact ⟨by rw [set_other (.inr (by omega))];exact s1,s2⟩
 · dsimp only
   rw [if_neg e]
   have key : ∀ (w : World) (v : Value) (x z : Nat),x < 2 → z < 2 → (w.setCell ⟨g,d * 2 + x,none⟩ v).cell? ⟨g,a * 2 + z,none⟩ = w.cell? ⟨g,a * 2 + z,none⟩:=fun w v x z hx hz => set_other (.inr (by omega))
   have hca:=h.2.1 a ha
   exact ⟨((key _ (.int .i64 y.1.n) 1 0 (by omega) (by omega)).trans (key w (.int .i64 y.1.k) 0 0 (by omega) (by omega))).trans hca.1,
     ((key _ (.int .i64 y.1.n) 1 1 (by omega) (by omega)).trans (key w (.int .i64 y.1.k) 0 1 (by omega) (by omega))).trans hca.2⟩
theorem Vr.made {w : World} {g f : Nat} {M : Array Value} {t : TypeId} (h : w.heap[g]? = some (.cells M t (0,0))) (hM : (List.replicate (f * 2) (Value.int .i64 0)).toArray = M) : Vr w g f (fun _ => topV):=by
 refine ⟨(Array.getElem?_eq_some_iff.1 h).1,fun a ha => ⟨?_,?_⟩,fun i => by simp [World.frozen?,h]⟩
 · have h9:=rep_at (v:=Value.int .i64 0) (n:=f * 2) (i:=a * 2) (by omega)
   rw [hM] at h9
   show _ = some (Value.int .i64 0)
   simpa [World.cell?,h] using h9
 · have h9:=rep_at (v:=Value.int .i64 0) (n:=f * 2) (i:=a * 2 + 1) (by omega)
   rw [hM] at h9
   show _ = some (Value.int .i64 0)
   simpa [World.cell?,h] using h9
structure Vo (N f i base : Nat) (w : World) (go : Nat) (rw : Nat → Nat) (S : Nat → Nat → U) : Prop where
 glt : go < w.heap.size
 gb : go < base
 gfr : ∀ x,w.frozen? ⟨go,x,none⟩ = false
 row : ∀ n,n < i → w.cell? ⟨go,n,none⟩ = some (.slice (some ⟨rw n,0,none⟩) f f)
 nil : ∀ n,i ≤ n → n < N → w.cell? ⟨go,n,none⟩ = some (.slice none 0 0)
 r : ∀ n,n < i → Vr w (rw n) f (S n)
 rb : ∀ n,n < i → base ≤ rw n
 inj : ∀ n m,n < i → m < i → rw n = rw m → n = m
section
variable {N f i base : Nat} {w w' : World} {go : Nat} {rw : Nat → Nat} {S : Nat → Nat → U}
theorem Vo.kept {X : List Nat} (h : Vo N f i base w go rw S) (hk : Kept X w w') (hg : go ∉ X) (hX : ∀ n,n < i → rw n ∉ X) : Vo N f i base w' go rw S :=
 ⟨Nat.lt_of_lt_of_le h.glt hk.size,h.gb,fun x => (hk.frozen go x h.glt hg).trans (h.gfr x),fun n hn => (hk.cell go n h.glt hg).trans (h.row n hn),fun n h1 h2 => (hk.cell go n h.glt hg).trans (h.nil n h1 h2),fun n hn => (h.r n hn).kept hk (hX n hn),h.rb,h.inj⟩
theorem Vo.over {u : World} {X : List Nat} (h : Vo N f i base u go rw S) (hk : Kept X u w') (hX : ∀ x ∈ X,u.heap.size ≤ x) : Vo N f i base w' go rw S :=
 h.kept hk (fun hm => by have:=hX go hm;have:=h.glt;omega) (fun n hn hm => by have:=hX _ hm;have:=(h.r n hn).1;omega)
theorem Vo.snoc (h : Vo N f i base w go rw S) (hi : i < N) {g : Nat} (hg : base ≤ g) (hr : Vr w g f (S i)) (hfr : ∀ n,n < i → rw n ≠ g) :
   Vo N f (i + 1) base (w.setCell ⟨go,i,none⟩ (.slice (some ⟨g,0,none⟩) f f)) go (updN rw i g) S:=by
 have hgb:=h.gb
 have hk : Kept [go] w (w.setCell ⟨go,i,none⟩ (.slice (some ⟨g,0,none⟩) f f)):=(Kept.refl [go] w).set go i _ (.inl (by simp))
 have e1 : ∀ n,n < i → updN rw i g n = rw n:=fun n hn => by unfold updN;rw [if_neg (by omega)]
 have e2 : updN rw i g i = g:=by unfold updN;rw [if_pos rfl]
 refine ⟨by simpa [World.setCell] using h.glt,hgb,fun x => by simpa using h.gfr x,fun n hn => ?_,fun n h1 h2 => ?_,fun n hn => ?_,fun n hn => ?_,fun n m hn hm e => ?_⟩
 · by_cases e : n = i
   · subst e
     rw [e2]
     exact set_same (h.nil n (Nat.le_refl _) hi)
   · rw [e1 n (by omega),set_other (.inr (by simpa using fun e' => e e'.symm))]
     exact h.row n (by omega)
 · rw [set_other (.inr (by simp;omega))]
   exact h.nil n (by omega) h2
 · by_cases e : n = i
   · subst e
     rw [e2]
     exact hr.kept hk (by simp;omega)
   · rw [e1 n (by omega)]
     exact (h.r n (by omega)).kept hk (by have:=h.rb n (by omega);simp;omega)
 · by_cases e : n = i
   · subst e
     rw [e2]
     exact hg
   · rw [e1 n (by omega)]
     exact h.rb n (by omega)
 · by_cases e3 : n = i
   · subst e3
     by_cases e4 : m = n
     · exact e4.symm
     · rw [e2,e1 m (by omega)] at e
       exact absurd e.symm (hfr m (by omega))
   · by_cases e4 : m = i
     · subst e4
       rw [e2,e1 n (by omega)] at e
       exact absurd e (hfr n (by omega))
     · rw [e1 n (by omega),e1 m (by omega)] at e
       exact h.inj n m (by omega) (by omega) e
theorem Vo.vw (h : Vo N f N base w go rw S) : Vw N f w go rw (fun _ => f) S :=
 ⟨h.glt,h.row,fun n a hn ha => (h.r n hn).2.1 a ha,fun n i hn => (h.r n hn).2.2 i,fun n hn => (h.r n hn).1,h.inj,fun n hn => by have:=h.gb;have:=h.rb n hn;omega⟩
end
def Gr (p : Vb) (T : Nat → Nat → Nat → D) (V : Nat → Nat → U) (n f : Nat) (C : Value → Prop) (v : Nat → U) : Prop :=
 ∀ d,d < f → Glb (fun u => ∃ a,T n a d ≠ top ∧ C (pv2 a d) ∧ u = app (T n a d) (V (If.stOf p.ns n) a)) (v d)
section
variable {p : Vb} {T : Nat → Nat → Nat → D} {V : Nat → Nat → U} {n f : Nat} {C C' : Value → Prop} {v : Nat → U}
theorem Gr.init (h : ∀ a d,C (pv2 a d) → T n a d = top) : Gr p T V n f C (fun _ => topV):=fun d _ =>
 Glb.none (fun _ ⟨a,h1,h2,_⟩ => h1 (h a d h2))
theorem Gr.step (h : Gr p T V n f C v) {a d : Nat} (hC : ∀ key,C' key ↔ (C key ∨ key = pv2 a d)) (hT : T n a d ≠ top) (hd : d < f) :
   Gr p T V n f C' (fun x => if x = d then meetV (v d) (app (T n a d) (V (If.stOf p.ns n) a)) else v x):=fun x hx => by
 by_cases e : x = d
 · subst e
   dsimp only
   rw [if_pos rfl]
   refine (h x hx).add (fun u => ?_)
   constructor
   · rintro ⟨a',h1,h2,h3⟩
     rcases (hC _).1 h2 with h4 | h4
     · exact .inl ⟨a',h1,h4,h3⟩
     · obtain ⟨rfl,-⟩:=pv2_inj h4
       exact .inr h3
   · rintro (⟨a',h1,h2,h3⟩ | h1)
     · exact ⟨a',h1,(hC _).2 (.inl h2),h3⟩
     · exact ⟨a,hT,(hC _).2 (.inr rfl),h1⟩
 · dsimp only
   rw [if_neg e]
   refine (h x hx).iff (fun u => ?_)
   constructor
   · rintro ⟨a',h1,h2,h3⟩
     rcases (hC _).1 h2 with h4 | h4
     · exact ⟨a',h1,h4,h3⟩
     · exact absurd (pv2_inj h4).2 e
   · rintro ⟨a',h1,h2,h3⟩
     exact ⟨a',h1,(hC _).2 (.inl h2),h3⟩
theorem Gr.done (h : Gr p T V n f C v) (hall : ∀ a d,T n a d ≠ top → C (pv2 a d)) (hT : ∀ a d,¬ a < p.F.toNat → T n a d = top) {d : Nat} (hd : d < f) : v d = solV p T V n d :=
 (at_some ((h d hd).iff (fun _ => ⟨fun ⟨a,h1,h2⟩ => ⟨a,h1,hall a d h1,h2⟩,fun ⟨a,h1,_,h2⟩ => ⟨a,h1,h2⟩⟩))).eq (solV_glb (fun a ha => hT a d ha))
end
end Iv
end Go.Df
namespace Go.Proofs.YtincpmdldpakkaaGreatDoor
open Go.RowKit Go.Df Go.Df.Iv Go.Df.Sp
theorem sol_is {p : Vb} {s s' : St} (h : Tab p 0 [] s) (hq : s.q = []) (g : GoodV p s.T s') (hv : VClo p s.T s'.V) : IsSol p (solV p s.T s'.V) :=
 ⟨s.T,s'.V,h.1.done hq,h.1.good.snd,hv,g.snd,fun n d _ _ => solV_glb (fun a ha => by
   by_cases e : s.T n a d = top
   · exact e
   · exact absurd (h.1.good.wf.rng n a d e).2.1 ha)⟩
end Go.Proofs.YtincpmdldpakkaaGreatDoor
namespace Go.Proofs.YtincpmdldpakkaaGreatDoor
open Go.RowKit Go.Df Go.Df.Iv Go.Df.Sp
attribute [local go_sem ↓] Go.wp_at_zero Go.wp_at_succ
def GetJ (p : Vb) (K : Kn) (mN f : Nat) (w : World) (e : Ending) (w' : World) : Prop :=
 ∃ (go cN : Nat) (rw rc : Nat → Nat) (T : Nat → Nat → Nat → D),e = .returned (.agg #[.slice K.A1 K.n1 K.c1,.slice K.A2 K.n2 K.c2,.int .i64 (mN : Nat),.int .i64 (f : Nat),.slice K.A3 K.n3 K.c3,.slice K.A4 K.n4 K.c4,.slice (some ⟨go,0,none⟩) K.n1 cN]) ∧ Tw p K.n1 f w' go rw rc T ∧ Clo p T ∧ Snd p T ∧ Below w.heap.size w w' ∧ (∀ n,n < K.n1 → w.heap.size ≤ rw n) ∧ w.heap.size ≤ go
end Go.Proofs.YtincpmdldpakkaaGreatDoor
namespace Go.Df
namespace If
open Sp
end If
namespace Iv
open Sp
def stL (ns : List Nd) (i : Nat) : List Nat:=(List.range i).map (If.stOf ns)
noncomputable def vfold (p : Vb) (T : Nat → Nat → Nat → D) (V : Nat → Nat → U) (n d a : Nat) : U:=(List.range a).foldl (fun v a => meetV v (app (T n a d) (V (If.stOf p.ns n) a))) topV
end Iv
end Go.Df
namespace Go.Proofs.YtincpmdldpakkaaGreatDoor
open Go.RowKit Go.Df Go.Df.Iv Go.Df.Sp
attribute [local go_sem ↓] Go.wp_at_zero Go.wp_at_succ
end Go.Proofs.YtincpmdldpakkaaGreatDoor
namespace Go.Df.Iv
open Go Go.RowKit Go.Df.Sp
structure Ln (p : Vb) (N f : Nat) (w : World) (O : Nat → Prop) (go : Nat) (rw rc : Nat → Nat) (T : Nat → Nat → Nat → D) (As : Option Addr) (cs : Nat) : Prop where
 tw : Tw p N f w go rw rc T
 sg : SafeB O w go
 sr : ∀ n,n < N → SafeB O w (rw n)
 st : SInO O w As N cs (ofNats (stL p.ns N))
end Go.Df.Iv
namespace Go.Proofs.YtincpmdldpakkaaGreatDoor
open Go.RowKit Go.Df Go.Df.Iv Go.Df.Sp
attribute [local go_sem ↓] Go.wp_at_zero Go.wp_at_succ
def GetL (p : Vb) (N f go2 : Nat) (rw2 rc2 : Nat → Nat) (w : World) (T : Nat → Nat → Nat → D) (V : Nat → Nat → U) (Q : Prop) (e : Ending) (w' : World) : Prop :=
 ∃ b V',e = .returned (.bool b) ∧ Vw N f w' go2 rw2 rc2 V' ∧ Fx (RowO N rw2) (RowO N rw2) w w' ∧ Rv p T V V' b ∧ (b = false → Q)
end Go.Proofs.YtincpmdldpakkaaGreatDoor
namespace Go.Df
open Go.RowKit
namespace Iv
open Sp
def ucel (g : Nat → U) (j : Nat) : List Value:=(List.range j).flatMap fun d => [.int .i64 (g d).1.k,.int .i64 (g d).1.n]
def EmU (base : Nat) (tb : TypeId) (f : Nat) (S : Nat → Nat → U) (bs : Nat → Nat) (n : Nat) (w : World) : Prop :=
 (∀ x,x < n → base ≤ bs x ∧ Tag w (bs x) tb ∧ ∀ d,d < f → w.cell? ⟨bs x,d * 2,none⟩ = some (.int .i64 (S x d).1.k) ∧ w.cell? ⟨bs x,d * 2 + 1,none⟩ = some (.int .i64 (S x d).1.n)) ∧ ∀ x y,x < n → y < n → bs x = bs y → x = y
end Iv
end Go.Df
namespace Go.Proofs.YtincpmdldpakkaaGreatDoor
open Go.RowKit Go.Df Go.Df.Iv Go.Df.Sp
attribute [local go_sem ↓] Go.wp_at_zero Go.wp_at_succ
theorem val_info9 : (Tryz.prog.info? 46).map (fun i => (i.zero,i.size,i.bytes)) = some (some (.agg #[.int .i64 0,.int .i64 0]),2,16):=by kernel_rfl
theorem rowv_info : (Tryz.prog.info? 39).map (fun i => (i.zero,i.size,i.bytes)) = some (some (.slice none 0 0),1,24):=by kernel_rfl
theorem Inp.kept9 {p : Vb} {K : Kn} {w w' : World} (h : Inp p K w) (hk : Kept [] w w') : Inp p K w':=by
 have hb:=hk.toBelow
 refine ⟨h.nd.later hb,h.ed.later hb,h.fl.later hb,h.sd.later hb,fun b o i A n c e hi hc => ?_⟩
 obtain ⟨b',o',e',hl,hc'⟩:=h.fl.2 (by omega)
 rw [e] at e'
 injection e' with e'
 injection e' with e1 e2
 subst e1 e2
 exact h.fc b o i A n c e hi ((hb.cell (p:=⟨b,_,none⟩) hl).symm.trans hc)
def GetU (p : Vb) (N f : Nat) (w : World) (e : Ending) (w' : World) : Prop :=
 ∃ (go cc : Nat) (rw rc : Nat → Nat) (S : Nat → Nat → U),e = .returned (.tuple #[.agg #[.slice (some ⟨go,0,none⟩) N cc],.int .i64 0]) ∧ Vw N f w' go rw rc S ∧ IsSol p S ∧ Below w.heap.size w w'
end Go.Proofs.YtincpmdldpakkaaGreatDoor
namespace Go.Df
abbrev SXp' (W : World) (ga gb : Nat) (w' : World) : Prop:=Kept [] W w' ∧ (∀ o,w'.cell? ⟨ga,o,none⟩ = W.cell? ⟨ga,o,none⟩) ∧ ∀ o,w'.cell? ⟨gb,o,none⟩ = W.cell? ⟨gb,o,none⟩
theorem SXp'.of {W w' : World} {ga gb : Nat} (h : Kept [] W w') (ha : ga < W.heap.size) (hb : gb < W.heap.size) : SXp' W ga gb w':=⟨h,fun o => h.cell ga o ha (by simp),fun o => h.cell gb o hb (by simp)⟩
end Go.Df
namespace Go.Proofs.YtincpmdldpakkaaGreatDoor
open Go.RowKit Go.Df Go.Df.Iv Go.Df.Sp
attribute [local go_sem ↓] Go.wp_at_zero Go.wp_at_succ
theorem meetU_any (x y : U) (x0 x1 y0 y1 z0 z1 : Int) (hx : x.1 = ⟨x0,x1⟩) (hy : y.1 = ⟨y0,y1⟩) (hz : (Iv.meetV x y).1 = ⟨z0,z1⟩) (w : World) :
   Calls Tryz.prog 36 #[.agg #[.int .i64 x0,.int .i64 x1],.agg #[.int .i64 y0,.int .i64 y1]] w fun e w' => e = .returned (.agg #[.int .i64 z0,.int .i64 z1]) ∧ Below w.heap.size w w':=by
 have h:=meetV_any x0 x1 y0 y1 w
 have hm : (Iv.meetV x y).1 = Xf.meetV x.1 y.1:=rfl
 rw [hx,hy,hz] at hm
 rw [← hm] at h
 exact h
theorem appU_any (x : D) (v : U) (x0 x1 x2 y0 y1 z0 z1 : Int) (hx : x.1 = ⟨x0,x1,x2⟩) (hy : v.1 = ⟨y0,y1⟩) (hz : (app x v).1 = ⟨z0,z1⟩) (w : World) :
   Calls Tryz.prog 34 #[.agg #[.int .i64 x0,.int .i64 x1,.int .i64 x2],.agg #[.int .i64 y0,.int .i64 y1]] w fun e w' => e = .returned (.agg #[.int .i64 z0,.int .i64 z1]) ∧ Below w.heap.size w w':=by
 have h:=apply_any x0 x1 x2 y0 y1 w
 have hm : (app x v).1 = Xf.apply x.1 v.1:=rfl
 rw [hx,hy,hz] at hm
 rw [← hm] at h
 exact h
theorem Mem.getv {p : Vb} {K : Kn} {w0 : World} {b : Nat} {O : Nat → Prop} {G : Gh} {w : World} {s : St} (h : Mem p K w0 b O G w s) {n a : Nat} (hn : n < K.n1) (ha : a ≤ 1000000) {y0 y1 : Int} (hy : (s.V n a).1 = ⟨y0,y1⟩) :
   Calls Tryz.prog 35 #[.agg #[.slice (some ⟨K.tr 3,0,none⟩) K.n1 K.n1],.int .i64 n,.int .i64 (a : Nat)] w fun e w' => e = .returned (.agg #[.int .i64 y0,.int .i64 y1]) ∧ Below w.heap.size w w' :=
 getv_any (K.tr 3) K.n1 K.n1 n a (G.m 3) (G.c 3) G.vv w h.tv hn ha y0 y1 (by
   have h1:=h.hv n a hn
   unfold uv at h1
   rw [hy] at h1
   exact h1)
set_option maxRecDepth 100000 in
set_option maxHeartbeats 40000000 in
theorem lower_any {p : Vb} {K : Kn} {w0 : World} {b : Nat} {O : Nat → Prop} {G : Gh} {s : St} (w : World) (n a : Nat) (v : U) (y0 y1 : Int) (hy : v.1 = ⟨y0,y1⟩) (hm : Mem p K w0 b O G w s) (hw : Wf p s) (hN1 : K.n1 = p.ns.length) (hN2 : K.n1 ≤ 8192) (hF : p.F ≤ 1024) (hmu : mu0 p ≤ 1000000) (hn : n < p.ns.length) (ha : a < p.F.toNat) :
   Calls Tryz.prog 80 #[.pointer (some ⟨b,0,none⟩),.int .i64 n,.int .i64 a,.agg #[.int .i64 y0,.int .i64 y1]] w (GetS p K w0 b O G w s (s.low n a v)):=by
 obtain ⟨s',hs'⟩ : ∃ s',s' = s.low n a v:=⟨_,rfl⟩
 rw [← hs']
 have HS:=Lib.hid hs'
 have hnK : n < K.n1:=by omega
 have hnK' : (n : Int) < (K.n1 : Int):=by omega
 have HM:=Lib.hid hm
 have HKB : Hid (∀ i,s.k i ≤ 1000000):=fun i => by have:=hw.kb i;omega
 have HPQ0 : Hid ((∀ x,x ∈ s.q ↔ s.pd x ≠ []) ∧ s.q.Nodup ∧ ∀ x ∈ s.q,x < K.n1):=⟨hw.qp,hw.qn,fun x hx => by
   obtain ⟨z,hz⟩:=List.exists_mem_of_ne_nil _ ((hw.qp x).1 hx)
   rw [hN1]
   exact (hw.pr x z hz).1⟩
 obtain ⟨x0,hx0⟩ : ∃ u,(s.V n a).1.k = u:=⟨_,rfl⟩
 obtain ⟨x1,hx1⟩ : ∃ u,(s.V n a).1.n = u:=⟨_,rfl⟩
 obtain ⟨z0,hz0'⟩ : ∃ u,(Iv.meetV (s.V n a) v).1.k = u:=⟨_,rfl⟩
 obtain ⟨z1,hz1'⟩ : ∃ u,(Iv.meetV (s.V n a) v).1.n = u:=⟨_,rfl⟩
 have eX : (s.V n a).1 = ⟨x0,x1⟩:=by rw [← hx0,← hx1]
 have eZ : (Iv.meetV (s.V n a) v).1 = ⟨z0,z1⟩:=by rw [← hz0',← hz1']
 have HZ : Hid (uv (Iv.meetV (s.V n a) v) = .agg #[.int .i64 z0,.int .i64 z1]):=by show _ = _;unfold uv;rw [eZ]
 have HME : Hid (∀ w9,Calls Tryz.prog 36 #[.agg #[.int .i64 x0,.int .i64 x1],.agg #[.int .i64 y0,.int .i64 y1]] w9 fun e w' => e = .returned (.agg #[.int .i64 z0,.int .i64 z1]) ∧ Below w9.heap.size w9 w'):=fun w9 => meetU_any _ _ _ _ _ _ _ _ eX hy eZ w9
 have HDEC : Hid (Iv.meetV (s.V n a) v = s.V n a ↔ (z0 = x0 ∧ z1 = x1)):=by
   show _ ↔ _
   constructor
   · intro h
     rw [h,eX] at eZ
     injection eZ with e1 e2
     exact ⟨e1.symm,e2.symm⟩
   · rintro ⟨rfl,rfl⟩
     exact Subtype.ext (eZ.trans eX.symm)
 have HGX : Hid (∀ w9,Kept [] w w9 → Calls Tryz.prog 35 #[.agg #[.slice (some ⟨K.tr 3,0,none⟩) K.n1 K.n1],.int .i64 n,.int .i64 (a : Nat)] w9 fun e w' => e = .returned (.agg #[.int .i64 x0,.int .i64 x1]) ∧ Below w9.heap.size w9 w'):=fun w9 hk9 => (hm.kept hk9).getv hnK (by omega) eX
 have HN1:=Lib.hid hN1
 clear hx0 hx1 hz0' hz1' eX eZ hy hm hw hs' hmu hN1
 go_enter Tryz.func80,Tryz.ntmps80
 go_upto_region 1 with fail
 refine wp_named (fun W => ∃ b0,w.heap.size = b0 ∧ Blk W b0 [.int .i64 y0,.int .i64 y1] ∧ Below w.heap.size w W) ⟨_,rfl,?_,?_⟩ ?_
 · exact kbn
 · go_grown
 rintro W ⟨b0,e0,B0,hB⟩
 rw [e0]
 have G0 : w.heap.size ≤ b0:=by omega
 clear e0
 have ⟨L0,C0,F0⟩:=B0
 have hkW : Kept [] w W:=(Kept.refl _ _).call hB
 have Bw:=(HM.out.kept hkW).box
 unfold sbox at Bw
 have ⟨LW,CW,FW⟩:=Bw
 go_upto_region 2 with (go_at_call 35;refine (HGX.out _ hkW).mono ?_;rintro e w2 ⟨rfl,hb2⟩)
 refine wp_named (fun V => ∃ g,w2.heap.size = g ∧ Blk V g [.int .i64 x0,.int .i64 x1] ∧ Kept [] w2 V) ⟨_,rfl,Blk.new _ _ _ _ rfl,(Kept.refl _ _).alloc _⟩ ?_
 rintro V2 ⟨b2,e2,B2,hkV2⟩
 rw [e2]
 have ⟨L2,C2,F2⟩:=B2
 have hk12 : Kept [] W V2:=keptTrans ((Kept.refl _ _).call hb2) hkV2
 have ⟨L0',C0',F0'⟩:=hk12.blk (by simp) B0
 clear CW FW C0 F0 e2
 go_upto_region 3 with (go_at_call 36;refine (HME.out _).mono ?_;rintro e w3 ⟨rfl,hb3⟩)
 refine wp_named (fun V => ∃ g,w3.heap.size = g ∧ Blk V g [.int .i64 z0,.int .i64 z1] ∧ Kept [] w3 V) ⟨_,rfl,Blk.new _ _ _ _ rfl,(Kept.refl _ _).alloc _⟩ ?_
 rintro V3 ⟨b3,e3,B3,hkV3⟩
 rw [e3]
 have ⟨L3,C3,F3⟩:=B3
 have hk23 : Kept [] V2 V3:=keptTrans ((Kept.refl _ _).call hb3) hkV3
 have ⟨L2',C2',F2'⟩:=hk23.blk (by simp) B2
 have hk3 : Kept [] w V3:=keptTrans (keptTrans hkW hk12) hk23
 have M3:=Lib.hid (HM.out.kept hk3)
 have FY0 : Hid (Fy K O O G G s s w V3):=Fy.kept K O G s hk3
 have Bz:=M3.out.box
 unfold sbox at Bz
 have ⟨LZ,CZ,FZ⟩:=Bz
 clear C0' F0' C2 F2 e3
 by_cases hsame : Iv.meetV (s.V n a) v = s.V n a
 · obtain ⟨rfl,rfl⟩:=HDEC.out.1 hsame
   have HE : Hid (s' = s):=by show _ = _;rw [HS.out,low_id hsame]
   clear hsame HDEC
   go_wp2_with fail
   go_end0
   exact ⟨O,G,rfl,M3.out.eq HE.out.symm,by rw [HE.out];exact FY0.out⟩
 · have hne : ¬ (z0 = x0 ∧ z1 = x1):=fun h => hsame (HDEC.out.2 h)
   have HNE:=Lib.hid hsame
   clear hsame
   go_cut [22] (fun s9 wx => s9 = .bool true ∧ V3 = wx)
   case first =>
     go_wp2_with fail
     all_goals
       go_meet
       exact ⟨rfl,rfl⟩
   case rest =>
   obtain ⟨rfl,rfl⟩:=hcut
   clear hne
   have hct : G.c 3 n < maxLen:=by
     have h1:=M3.out.cb 3 n (by omega) hnK
     have h2:=HKB.out 3
     unfold maxLen
     omega
   have HPUT : Hid (Calls Tryz.prog 141 #[.agg #[.slice (some ⟨K.tr 3,0,none⟩) K.n1 K.n1],.int .i64 n,.int .i64 (a : Nat),.agg #[.int .i64 z0,.int .i64 z1]] V3.drew (PutT Tryz.prog 3 179 (.agg #[.int .i64 0,.int .i64 0]) V3.drew (K.tr 3) K.n1 (G.m 3) (G.c 3) G.vv n (.int .i64 (a : Nat)) (.agg #[.int .i64 z0,.int .i64 z1]))):=putv_any (K.tr 3) K.n1 K.n1 n a (G.m 3) (G.c 3) G.vv z0 z1 _ (M3.out.kept ((Kept.refl _ _).drew)).tv hnK (by omega) hct (newU HNE.out HZ.out)
   have HPJ : Hid (∀ e w8,PutT Tryz.prog 3 179 (.agg #[.int .i64 0,.int .i64 0]) V3.drew (K.tr 3) K.n1 (G.m 3) (G.c 3) G.vv n (.int .i64 (a : Nat)) (.agg #[.int .i64 z0,.int .i64 z1]) e w8 → ∃ O' G',e = .returned (.tuple #[]) ∧ Mem p K w0 b O' G' w8 (s.setV n a (Iv.meetV (s.V n a) v)) ∧ Fy K O O' G G' s (s.setV n a (Iv.meetV (s.V n a) v)) V3.drew w8):=fun e w8 hput => (M3.out.kept ((Kept.refl _ _).drew)).put_val (y:=Iv.meetV (s.V n a) v) hnK (by rw [HZ.out];exact hput)
   go_upto_region 4 with fail
   refine wp_region_E 7 (fun w' => SXp' V3 b b3 w') (by kernel_rfl) (by (first | (with_reducible assumption) | exact SXp'.of (Kept.refl _ _).drew LZ L3)) (fun hHeld => ?_)
   refine WE_tk 0 ?_
   refine WE_tk 1 ?_
   refine WE_tk 2 ?_
   refine WE_tk 3 ?_
   refine WE_tk 4 ?_
   refine WE_tk 5 ?_
   refine WE_tk 6 ?_
   refine WE_last rfl (by kernel_rfl) (fun K hK => ?_)
   go_simp
   (go_at_call 141;refine HPUT.out.mono ?_;intro e w8 hput;obtain ⟨O8,G8,rfl,M8',F8⟩:=HPJ.out e w8 hput)
   (try go_wp2_with fail)
   refine hK.out _ _ ?_
   clear hK K
   have M8:=Lib.hid M8'
   have F08:=(FY0.out.trans (Fy.kept K O G s (Kept.refl _ V3).drew)).trans F8
   obtain ⟨s3,hs3⟩ : ∃ s3,s3 = s.setV n a (Iv.meetV (s.V n a) v):=⟨_,rfl⟩
   rw [← hs3] at M8 F08
   have HPQ : Hid ((∀ x,x ∈ s3.q ↔ s3.pd x ≠ []) ∧ s3.q.Nodup ∧ s3.k 4 ≤ 1000000 ∧ ∀ x ∈ s3.q,x < K.n1):=by
     show _ ∧ _
     rw [hs3]
     exact ⟨HPQ0.out.1,HPQ0.out.2.1,HKB.out 4,HPQ0.out.2.2⟩
   have HEQ : Hid (s' = (s3.setQ (if s3.pd n = [] then s3.q ++ [n] else s3.q)).setP n (s3.pd n ++ [(a,a)])):=by
     show _ = _
     rw [HS.out,hs3]
     exact low_eq HNE.out
   clear hput M8' CZ FZ hs3
   go_wp2_with (go_at_call 136;refine (push_any _ n a a M8.out hnK hN2 HPQ.out.2.1 HPQ.out.1 HPQ.out.2.2.2 HPQ.out.2.2.1).mono ?_;rintro e w9 ⟨O9,G9,rfl,M9,F9⟩)
   go_end0
   have F9':=F08.trans F9
   rw [← HEQ.out] at F9'
   exact ⟨O9,G9,rfl,M9.eq HEQ.out.symm,F9'⟩
end Go.Proofs.YtincpmdldpakkaaGreatDoor
