/- Texts: Hi Ry. -/
import Derived.Test.YtincpmdldpakkaaGreatDoorMt40
import Derived.Test.YtincpmdldpakkaaGreatDoorMt38
import Derived.Test.YtincpmdldpakkaaGreatDoorRows
import Derived.ChangeSame
import Derived.LaidLaws
import Derived.LaidHandle
import Derived.Handed
import Derived.JoinedOf
import Derived.Lib.SmallJoins
import Derived.Test.YtincpmdldpakkaaGreatDoorMt21
namespace Go.Df
open Go.RowKit Go.ChangeShapes Go.WideShapes
section
variable {H : Type} {enc : TypeId × Value → H} {P : Program} {w : World} {base : Nat} {held : Bool}
theorem open_rowsC {t e : TypeId} {fuel : Nat} {v : Value} {x : DataW H × List MemPlace} (ht : P.underlying t = some (.slice e)) (hC : P.cellsOf e = 1)
   (h : DataW.trod enc P w base (fun _ => true) held fuel t [v] = some x) :
   ∃ A n c,v = .slice A n c ∧ n ≤ c ∧ (0 < n → ∃ b o,A = some ⟨b,o,none⟩ ∧ b < w.heap.size ∧ ∀ i,i < n → ∃ u m y,w.cell? ⟨b,o + i,none⟩ = some u ∧ DataW.trod enc P w base (fun _ => true) held m e [u] = some y):=by
 rcases Go.Deep.open_slice ht h with ⟨h0,_⟩ | ⟨a,len,cap,m,n,D,Pl,hcs,hbb,hl,hm,hmm,hx,hi⟩
 · injection h0 with h0
   exact ⟨none,0,0,h0,Nat.le_refl _,fun h => absurd h (by omega)⟩
 · injection hcs with hcs
   subst hcs
   have hread : ∀ i,i < len → ∃ u m y,w.cell? (a.add i) = some u ∧ DataW.trod enc P w base (fun _ => true) held m e [u] = some y:=by
     intro i hil
     obtain ⟨cs',hc,ht'⟩:=hi i (by rw [hmm];simp;omega)
     rw [hC] at hc
     obtain ⟨h1,h2,h3⟩:=World.cells?_some hc
     match cs',h2 with
     | [u],_ =>
       have h4:=h3 0 (by omega)
       rw [addr_add_add,Nat.mul_one] at h4
       exact ⟨u,_,_,h4,ht'⟩
   refine ⟨some a,len,cap,rfl,hl,fun hp => ?_⟩
   obtain ⟨b,o,sp⟩:=a
   obtain ⟨u0,m0,y0,h0,-⟩:=hread 0 hp
   have hsp : sp = none:=by
     cases sp with
     | none => rfl
     | some s =>
       exfalso
       simp only [World.cell?,Addr.add] at h0
       split at h0 <;> simp at h0
   subst hsp
   refine ⟨b,o,rfl,cell_lt (p:=⟨b,o,none⟩) (by have h9:=h0;rw [add_lit] at h9;simpa using h9),fun i hil => ?_⟩
   obtain ⟨u,m1,y,h1,h2⟩:=hread i hil
   rw [add_lit] at h1
   exact ⟨u,m1,y,h1,h2⟩
theorem gl_mk {n i : Nat} (h : i < n) (f : Nat → List Sp.Xp) : Sp.gl ((List.range n).map f) i = f i:=by simp [Sp.gl,h]
theorem gx_mk {n i : Nat} (h : i < n) (f : Nat → Sp.Xp) : Sp.gx ((List.range n).map f) i = f i:=by simp [Sp.gx,h]
theorem gs_mk {n i : Nat} (h : i < n) (f : Nat → Sp.Vs) : Sp.gs ((List.range n).map f) i = f i:=by simp [Sp.gs,h]
end
theorem cells5 {cs : List Value} {z0 z1 z2 z3 z4 : Int} (hl : cs.length = 5) (h0 : (cs.drop 0).take 1 = [.int .i64 z0]) (h1 : (cs.drop 1).take 1 = [.int .i64 z1]) (h2 : (cs.drop 2).take 3 = [.int .i64 z2,.int .i64 z3,.int .i64 z4]) : cs = [z0,z1,z2,z3,z4].map (Value.int .i64):=by
 match cs,hl with
 | [a,b,c,d,e],_ => simp at h0 h1 h2;simp [h0,h1,h2]
theorem cells4' {cs : List Value} {z0 z1 z2 z3 : Int} (hl : cs.length = 4) (h0 : (cs.drop 0).take 1 = [.int .i64 z0]) (h1 : (cs.drop 1).take 1 = [.int .i64 z1]) (h2 : (cs.drop 2).take 2 = [.int .i64 z2,.int .i64 z3]) : cs = [z0,z1,z2,z3].map (Value.int .i64):=by
 match cs,hl with
 | [a,b,c,d],_ => simp at h0 h1 h2;simp [h0,h1,h2]
theorem cells2 {cs : List Value} {z0 z1 : Int} (hl : cs.length = 2) (h0 : (cs.drop 0).take 1 = [.int .i64 z0]) (h1 : (cs.drop 1).take 1 = [.int .i64 z1]) : cs = [z0,z1].map (Value.int .i64):=by
 match cs,hl with
 | [a,b],_ => simp at h0 h1;simp [h0,h1]
theorem i64_fit {z : Int} (h : (Lit.int .i64 z).wf = true) : wrap64 z = z:=by
 have h : IntKind.min .i64 ≤ z ∧ z ≤ IntKind.max .i64:=by simpa [Lit.wf] using h
 have e1 : IntKind.min .i64 = -9223372036854775808:=by decide
 have e2 : IntKind.max .i64 = 9223372036854775807:=by decide
 rw [e1,e2] at h
 exact IntWalk.wrap64_in _ h
theorem slice_len {H : Type} {enc : TypeId × Value → H} {P : Program} {w : World} {base : Nat} {held : Bool} {t e : TypeId} {fuel : Nat} {A : Option Addr} {n c : Nat} {x : DataW H × List MemPlace} (ht : P.underlying t = some (.slice e))
   (h : DataW.trod enc P w base (fun _ => true) held fuel t [.slice A n c] = some x) : n ≤ 9223372036854775807:=by
 rcases Go.Deep.open_slice ht h with ⟨h0,_⟩ | ⟨a,len,cap,m,k,D,Pl,hcs,hbb,hl,hm,hmm,hx,hi⟩
 · injection h0 with h0
   injection h0 with h1 h2 h3
   omega
 · injection hcs with hcs
   injection hcs with h1 h2 h3
   unfold maxLen at hm
   omega
end Go.Df
namespace Go.Proofs.YtincpmdldpakkaaGreatDoor
open Go.RowKit Go.ChangeShapes Go.WideShapes Go.Joins Go.Df Go.Df.Iv
theorem hc1 : Tryz.prog.cellsOf 3 = 1:=by kernel_rfl
theorem hc1' : Tryz.prog.cellsOf 2 = 1:=by kernel_rfl
section
variable {H : Type} {enc : TypeId × Value → H} {w : World} {base : Nat} {held : Bool}
theorem open_value (n : Nat) (cs' : List Value) (y : DataW H × List MemPlace) (h : DataW.trod enc Tryz.prog w base (fun _ => true) held n 46 cs' = some y) : ∃ z0 z1 : Int,cs' = [z0,z1].map (Value.int .i64) ∧ (Lit.int .i64 z0).wf = true ∧ (Lit.int .i64 z1).wf = true ∧ y.1 = .agg [.lit (.int .i64 z0),.lit (.int .i64 z1)]:=by
 obtain ⟨y0,y1,m,hx,hl,h0,h1⟩:=Go.ChangeShapes.trod_struct2 Tryz.underlying46 h
 obtain ⟨z0,e0,f0,w0⟩:=DataW.trod_int Tryz.underlying3 h0
 obtain ⟨z1,e1,f1,w1⟩:=DataW.trod_int Tryz.underlying2 h1
 have hc3 : Tryz.prog.cellsOf 46 = 2:=by kernel_rfl
 rw [hc3] at hl
 dsimp only at e0 e1
 rw [hc1] at e0
 rw [hc1'] at e1
 exact ⟨z0,z1,cells2 hl e0 e1,w0,w1,by rw [hx,f0,f1]⟩
theorem open_xform (n : Nat) (cs' : List Value) (y : DataW H × List MemPlace) (h : DataW.trod enc Tryz.prog w base (fun _ => true) held n 71 cs' = some y) : ∃ z0 z1 z2 : Int,cs' = [z0,z1,z2].map (Value.int .i64) ∧ (Lit.int .i64 z0).wf = true ∧ (Lit.int .i64 z1).wf = true ∧ (Lit.int .i64 z2).wf = true ∧ y.1 = .agg [.lit (.int .i64 z0),.lit (.int .i64 z1),.lit (.int .i64 z2)]:=by
 obtain ⟨y0,y1,y2,m,hx,hl,h0,h1,h2⟩:=Go.Deep.trod_struct3 Tryz.underlying71 h
 obtain ⟨z0,e0,f0,w0⟩:=DataW.trod_int Tryz.underlying3 h0
 obtain ⟨z1,e1,f1,w1⟩:=DataW.trod_int Tryz.underlying2 h1
 obtain ⟨z2,e2,f2,w2⟩:=DataW.trod_int Tryz.underlying2 h2
 have hc3 : Tryz.prog.cellsOf 71 = 3:=by kernel_rfl
 rw [hc3] at hl
 dsimp only at e0 e1 e2
 rw [hc1] at e0
 rw [hc1'] at e1 e2
 exact ⟨z0,z1,z2,cells3 hl e0 e1 e2,w0,w1,w2,by rw [hx,f0,f1,f2]⟩
theorem open_xpair (n : Nat) (cs' : List Value) (y : DataW H × List MemPlace) (h : DataW.trod enc Tryz.prog w base (fun _ => true) held n 125 cs' = some y) : ∃ zs : List Int,cs' = zs.map (Value.int .i64) ∧ ∀ q,q < 5 → (Lit.int .i64 (gi zs q)).wf = true:=by
 obtain ⟨y0,y1,y2,m,-,hl,h0,h1,h2⟩:=Go.Deep.trod_struct3 Tryz.underlying125 h
 obtain ⟨z0,e0,-,w0⟩:=DataW.trod_int Tryz.underlying3 h0
 obtain ⟨z1,e1,-,w1⟩:=DataW.trod_int Tryz.underlying3 h1
 obtain ⟨z2,z3,z4,e2,w2,w3,w4,-⟩:=open_xform _ _ _ h2
 have hc3 : Tryz.prog.cellsOf 125 = 5:=by kernel_rfl
 have hcx : Tryz.prog.cellsOf 71 = 3:=by kernel_rfl
 rw [hc3] at hl
 dsimp only at e0 e1 e2
 rw [hc1] at e0 e1
 rw [hcx] at e2
 refine ⟨[z0,z1,z2,z3,z4],cells5 hl e0 e1 e2,fun q hq => ?_⟩
 match q,hq with
 | 0,_ => exact w0
 | 1,_ => exact w1
 | 2,_ => exact w2
 | 3,_ => exact w3
 | 4,_ => exact w4
theorem open_vseed (n : Nat) (cs' : List Value) (y : DataW H × List MemPlace) (h : DataW.trod enc Tryz.prog w base (fun _ => true) held n 80 cs' = some y) : ∃ zs : List Int,cs' = zs.map (Value.int .i64) ∧ ∀ q,q < 4 → (Lit.int .i64 (gi zs q)).wf = true:=by
 obtain ⟨y0,y1,y2,m,-,hl,h0,h1,h2⟩:=Go.Deep.trod_struct3 Tryz.underlying80 h
 obtain ⟨z0,e0,-,w0⟩:=DataW.trod_int Tryz.underlying3 h0
 obtain ⟨z1,e1,-,w1⟩:=DataW.trod_int Tryz.underlying3 h1
 obtain ⟨z2,z3,e2,w2,w3,-⟩:=open_value _ _ _ h2
 have hc3 : Tryz.prog.cellsOf 80 = 4:=by kernel_rfl
 have hcx : Tryz.prog.cellsOf 46 = 2:=by kernel_rfl
 rw [hc3] at hl
 dsimp only at e0 e1 e2
 rw [hc1] at e0 e1
 rw [hcx] at e2
 refine ⟨[z0,z1,z2,z3],cells4' hl e0 e1 e2,fun q hq => ?_⟩
 match q,hq with
 | 0,_ => exact w0
 | 1,_ => exact w1
 | 2,_ => exact w2
 | 3,_ => exact w3
theorem open_flows {fuel : Nat} {v : Value} {x : DataW H × List MemPlace} (h : DataW.trod enc Tryz.prog w base (fun _ => true) held fuel 26 [v] = some x) : ∃ A n c ls,v = .slice A n c ∧ Fls w A n ls ∧ (∀ k,∀ q ∈ Sp.gl ls k,wrap64 q.b = q.b ∧ wrap64 q.c = q.c) ∧ ∀ b o i Ai ni ci,A = some ⟨b,o,none⟩ → i < n → w.cell? ⟨b,o + i,none⟩ = some (.slice Ai ni ci) → ni ≤ ci:=by
 obtain ⟨A,n,c,rfl,-,hrow⟩:=open_rowsC Tryz.underlying26 (by kernel_rfl) h
 have hex : ∀ i,∃ l : List Sp.Xp,(∀ q ∈ l,wrap64 q.b = q.b ∧ wrap64 q.c = q.c) ∧ ∀ b o,A = some ⟨b,o,none⟩ → i < n → ∃ Ai ni ci,w.cell? ⟨b,o + i,none⟩ = some (.slice Ai ni ci) ∧ ni ≤ ci ∧ Xps w Ai ni l:=by
   intro i
   by_cases hi : i < n
   · obtain ⟨b,o,rfl,hb,hc⟩:=hrow (by omega)
     obtain ⟨u,m,y,h1,h2⟩:=hc i hi
     obtain ⟨Ai,ni,ci,g,rfl,hni,k1,k2⟩:=open_rowsI Tryz.underlying76 (k:=5) (by kernel_rfl) (by omega) open_xpair h2
     refine ⟨(List.range ni).map (fun j => ⟨g j 0,g j 1,g j 2,g j 3,g j 4⟩),fun q hq => ?_,fun b' o' e' _ => ?_⟩
     · obtain ⟨j,hj,rfl⟩:=List.mem_map.1 hq
       have hj:=List.mem_range.1 hj
       exact ⟨i64_fit (k2 j hj 3 (by omega)),i64_fit (k2 j hj 4 (by omega))⟩
     injection e' with e'
     injection e' with e1 e2
     subst e1 e2
     refine ⟨Ai,ni,ci,h1,hni,by simp,fun h0 => ?_⟩
     obtain ⟨b2,o2,rfl,hl2,hc2⟩:=k1 h0
     refine ⟨b2,o2,rfl,hl2,fun j hj => ?_⟩
     rw [gx_mk hj]
     exact ⟨hc2 j hj 0 (by omega),hc2 j hj 1 (by omega),hc2 j hj 2 (by omega),hc2 j hj 3 (by omega),hc2 j hj 4 (by omega)⟩
   · exact ⟨[],(fun _ h => by cases h),fun _ _ _ h => absurd h hi⟩
 refine ⟨A,n,c,(List.range n).map (fun i => (hex i).choose),rfl,⟨by simp,fun h0 => ?_⟩,fun k q hq => ?_,fun b o i Ai ni ci hA hi hc => ?_⟩
 · obtain ⟨b,o,rfl,hb,-⟩:=hrow h0
   refine ⟨b,o,rfl,hb,fun i hi => ?_⟩
   rw [gl_mk hi]
   obtain ⟨Ai,ni,ci,h1,-,h3⟩:=(hex i).choose_spec.2 b o rfl hi
   exact ⟨Ai,ni,ci,h1,h3⟩
 · by_cases hk : k < n
   · rw [gl_mk hk] at hq
     exact (hex k).choose_spec.1 q hq
   · have e : Sp.gl ((List.range n).map (fun i => (hex i).choose)) k = []:=by simp [Sp.gl,hk]
     rw [e] at hq
     cases hq
 · obtain ⟨Ai',ni',ci',h1,h2,-⟩:=(hex i).choose_spec.2 b o hA hi
   have h9:=h1.symm.trans hc
   injection h9 with h9
   injection h9 with e1 e2 e3
   omega
theorem open_seeds {fuel : Nat} {v : Value} {x : DataW H × List MemPlace} (h : DataW.trod enc Tryz.prog w base (fun _ => true) held fuel 27 [v] = some x) : ∃ A n c sd,v = .slice A n c ∧ n ≤ c ∧ n ≤ 9223372036854775807 ∧ Vss w A n sd ∧ ∀ s ∈ sd,wrap64 s.v = s.v:=by
 obtain ⟨A,n,c,g,rfl,hnc,k1,k2⟩:=open_rowsI Tryz.underlying27 (k:=4) (by kernel_rfl) (by omega) open_vseed h
 have hn:=slice_len Tryz.underlying27 h
 refine ⟨A,n,c,(List.range n).map (fun j => ⟨g j 0,g j 1,g j 2,g j 3⟩),rfl,hnc,hn,⟨by simp,fun h0 => ?_⟩,fun s hs => ?_⟩
 · obtain ⟨b2,o2,rfl,hl2,hc2⟩:=k1 h0
   refine ⟨b2,o2,rfl,hl2,fun j hj => ?_⟩
   rw [gs_mk hj]
   exact ⟨hc2 j hj 0 (by omega),hc2 j hj 1 (by omega),hc2 j hj 2 (by omega),hc2 j hj 3 (by omega)⟩
 · obtain ⟨j,hj,rfl⟩:=List.mem_map.1 hs
   exact i64_fit (k2 j (List.mem_range.1 hj) 3 (by omega))
set_option maxRecDepth 100000 in
/-- A problem that came in. -/
theorem open_vp {r : Reach} {b0 : Nat} {v : Value} {d : DataW H} {p : List MemPlace} (hv : Value.okWide Tryz.prog w r b0 29 v) (h : DataW.Trod enc Tryz.prog w base (fun _ => true) held 29 v d p) :
   ∃ A1 n1 c1 A2 n2 c2 A3 n3 c3 A4 n4 c4,∃ q : Vb,v = .agg #[.slice A1 n1 c1,.slice A2 n2 c2,.int .i64 q.mn,.int .i64 q.F,.slice A3 n3 c3,.slice A4 n4 c4] ∧ Gr w A1 n1 A2 n2 q.ns q.es ∧ Fls w A3 n3 q.fl ∧ Vss w A4 n4 q.sd ∧ n4 ≤ c4 ∧ n4 ≤ 9223372036854775807 ∧ (n4 ≤ 1000000 → Lies q A1 A2 A3 A4 n1 n2 n3 n4 w):=by
 obtain ⟨cs,rfl,hsz⟩:=okWide_struct Tryz.underlying29 hv
 have hC : Tryz.prog.cellsOf 29 = 6:=by kernel_rfl
 have hS : Tryz.prog.cellsOf 25 = 3:=by kernel_rfl
 have hF : Tryz.prog.cellsOf 26 = 1:=by kernel_rfl
 have hV : Tryz.prog.cellsOf 27 = 1:=by kernel_rfl
 have hN : Tryz.prog.cellsOf 22 = 1:=by kernel_rfl
 have hE : Tryz.prog.cellsOf 23 = 1:=by kernel_rfl
 rw [hC] at hsz
 obtain ⟨l⟩:=cs
 match l,hsz with
 | [v0,v1,v2,v3,v4,v5],_ =>
 obtain ⟨fuel,hf⟩:=h
 obtain ⟨y0,y1,y2,y3,m,-,-,h0,h1,h2,h3⟩:=trod_struct4 Tryz.underlying29 hf
 simp only [Value.cells,hS,hc1,hF,hV,List.drop_zero,List.drop_succ_cons,List.take_succ_cons,List.take_zero] at h0 h1 h2 h3
 obtain ⟨x0,x1,x2,m',-,-,g0,g1,g2⟩:=Go.Deep.trod_struct3 Tryz.underlying25 h0
 simp only [hN,hE,hc1,List.drop_zero,List.drop_succ_cons,List.take_succ_cons,List.take_zero] at g0 g1 g2
 obtain ⟨A1,n1,c1,A2,n2,c2,ns,es,rfl,rfl,hg⟩:=open_gr g0 g1
 obtain ⟨mn,e2,-,-⟩:=DataW.trod_int Tryz.underlying3 g2
 injection e2 with e2
 subst e2
 obtain ⟨F,e3,-,-⟩:=DataW.trod_int Tryz.underlying3 h1
 injection e3 with e3
 subst e3
 obtain ⟨A3,n3,c3,ls,rfl,hfl,hf1,hf2⟩:=open_flows h2
 obtain ⟨A4,n4,c4,sd,rfl,hnc,hn4,hsd,hs1⟩:=open_seeds h3
 exact ⟨A1,n1,c1,A2,n2,c2,A3,n3,c3,A4,n4,c4,⟨ns,es,mn,F,ls,sd⟩,rfl,hg,hfl,hsd,hnc,hn4,fun h4 => ⟨hg.nd,hg.ed,hfl,hsd,hf2,hg.wn,hg.we,⟨hf1,hs1⟩,h4⟩⟩
end
theorem shiftNamed : Tryz.prog.globalNamed "dataflow/ide.shift" = some 0 := by kernel_rfl
theorem shiftType : (Tryz.prog.globals[0]?).map (·.type) = some 71:=by kernel_rfl
theorem gv_of_laid {W : World} (h : laidMetH Tryz.prog [("dataflow/ide.shift", Rows.laid_dataflow_ide_shift)] W) : Gv W := by
 have h' : laidMet Tryz.prog [("dataflow/ide.shift", Rows.laid_dataflow_ide_shift)] W := h
 obtain ⟨ps,⟨g,t,cs,fuel,p,q,hg,ht,hvar,hd,_,_⟩,_⟩:=h'
 obtain rfl:=Option.some.inj (shiftNamed.symm.trans hg)
 obtain rfl:=Option.some.inj (shiftType.symm.trans ht)
 obtain ⟨z0,z1,z2,e,-,-,-,hy⟩:=open_xform _ _ _ hd
 have e0 : z0 = 2 ∧ z1 = 0 ∧ z2 = 0:=by
   simp [Rows.laid_dataflow_ide_shift] at hy
   omega
 obtain ⟨rfl,rfl,rfl⟩:=e0
 obtain ⟨l⟩:=cs
 have e' : l = [(2 : Int),0,0].map (Value.int .i64):=e
 subst e'
 have c0:=World.var?_cell hg hvar 0
 have c1:=World.var?_cell hg hvar 1
 have c2:=World.var?_cell hg hvar 2
 exact ⟨c0,c1,c2,cell_lt (p:=⟨0,0,none⟩) c0⟩
noncomputable def laidWorld (os : Os) : World :=
 let w0:=World.holding Tryz.prog os ⟨#[],#[],[]⟩
 { w0 with heap := w0.heap.modify 0 fun
     | .cells _ t frozen => .cells #[.int .i64 2,.int .i64 0,.int .i64 0] t frozen
     | o => o }
theorem laidWorld_met (os : Os) (args : Array Value) : laidMetH Tryz.prog [("dataflow/ide.shift", Rows.laid_dataflow_ide_shift)] ((laidWorld os).forCall (fun _ _ => 0) ⟨#[], args, []⟩).memory :=
 laidMetH_of_parts (laidMet_of_run' 8 (by kernel_rfl) (by kernel_rfl)) (by kernel_rfl)
end Go.Proofs.YtincpmdldpakkaaGreatDoor
namespace Go.Proofs.YtincpmdldpakkaaGreatDoor
open Go.RowKit
theorem Tryz.own : ownKnob Tryz.prog.godebug = none:=by kernel_rfl
theorem Tryz.closed : (List.range Tryz.prog.types.size).all (Go.Df.closedB Tryz.prog Tryz.prog.types.size) = true:=by kernel_rfl
end Go.Proofs.YtincpmdldpakkaaGreatDoor
