/- Texts: Bc Bq. -/
import Derived.Test.YtincpmdldpakkaaGreatDoorMt03
import Derived.Test.YtincpmdldpakkaaGreatDoorMt25
namespace Go.Proofs.YtincpmdldpakkaaGreatDoor
open Go.RowKit Go.Df
attribute [local go_sem ↓] Go.wp_at_zero Go.wp_at_succ
set_option maxHeartbeats 1000000 in
theorem compose_any (k b c k' b' c' : Int) (w : World) :
   Calls Tryz.prog 85 #[.agg #[.int .i64 k,.int .i64 b,.int .i64 c],.agg #[.int .i64 k',.int .i64 b',.int .i64 c']] w fun e w' => e = .returned (.agg #[.int .i64 (Xf.compose ⟨k,b,c⟩ ⟨k',b',c'⟩).k,.int .i64 (Xf.compose ⟨k,b,c⟩ ⟨k',b',c'⟩).b,.int .i64 (Xf.compose ⟨k,b,c⟩ ⟨k',b',c'⟩).c]) ∧ Below w.heap.size w w':=by
 go_enter Tryz.func85,Tryz.ntmps85
 go_wp2
 all_goals
   go_returns
   exact ⟨ret_x (by simp_all [Xf.compose,Xf.shifted]),by go_grown⟩
set_option maxHeartbeats 2000000 in
theorem meet11_any (b c b' c' : Int) (w : World) (h0 : ¬ ((1 : Int) = 1 ∧ b = b' ∧ c = c')) :
   Calls Tryz.prog 134 #[.agg #[.int .i64 1,.int .i64 b,.int .i64 c],.agg #[.int .i64 1,.int .i64 b',.int .i64 c']] w fun e w' => e = .returned (.agg #[.int .i64 (Xf.meet ⟨1,b,c⟩ ⟨1,b',c'⟩).k,.int .i64 (Xf.meet ⟨1,b,c⟩ ⟨1,b',c'⟩).b,.int .i64 (Xf.meet ⟨1,b,c⟩ ⟨1,b',c'⟩).c]) ∧ Below w.heap.size w w':=by
 have i0 : ∀ (x0 x1 x2 y0 y1 y2 : Value) (w : World),(Instr.index 277 (.agg #[x0,x1,x2,y0,y1,y2]) (.int .i64 0)).run Tryz.prog w = .ok (.agg #[x0,x1,x2]) w:=fun _ _ _ _ _ _ _ => by kernel_rfl
 have i1 : ∀ (x0 x1 x2 y0 y1 y2 : Value) (w : World),(Instr.index 277 (.agg #[x0,x1,x2,y0,y1,y2]) (.int .i64 1)).run Tryz.prog w = .ok (.agg #[y0,y1,y2]) w:=fun _ _ _ _ _ _ _ => by kernel_rfl
 have h1:=Lib.hid h0
 clear h0
 go_enter Tryz.func134,Tryz.ntmps134
 go_wp2
 all_goals (try refine wp_loop_rounds 3 ?_)
 repeat any_goals (first | (rw [rounds_succ];go_wp2) | (go_region;go_wp2))
 all_goals
   go_returns
   refine ⟨ret_x ?_,by go_grown⟩
   have h2:=h1.out
   clear h1 i0 i1
   simp_all [Xf.meet]
set_option maxHeartbeats 2000000 in
theorem meet12_any (b c b' c' : Int) (w : World) (h0 : ¬ ((1 : Int) = 2 ∧ b = b' ∧ c = c')) :
   Calls Tryz.prog 134 #[.agg #[.int .i64 1,.int .i64 b,.int .i64 c],.agg #[.int .i64 2,.int .i64 b',.int .i64 c']] w fun e w' => e = .returned (.agg #[.int .i64 (Xf.meet ⟨1,b,c⟩ ⟨2,b',c'⟩).k,.int .i64 (Xf.meet ⟨1,b,c⟩ ⟨2,b',c'⟩).b,.int .i64 (Xf.meet ⟨1,b,c⟩ ⟨2,b',c'⟩).c]) ∧ Below w.heap.size w w':=by
 have i0 : ∀ (x0 x1 x2 y0 y1 y2 : Value) (w : World),(Instr.index 277 (.agg #[x0,x1,x2,y0,y1,y2]) (.int .i64 0)).run Tryz.prog w = .ok (.agg #[x0,x1,x2]) w:=fun _ _ _ _ _ _ _ => by kernel_rfl
 have i1 : ∀ (x0 x1 x2 y0 y1 y2 : Value) (w : World),(Instr.index 277 (.agg #[x0,x1,x2,y0,y1,y2]) (.int .i64 1)).run Tryz.prog w = .ok (.agg #[y0,y1,y2]) w:=fun _ _ _ _ _ _ _ => by kernel_rfl
 have h1:=Lib.hid h0
 clear h0
 go_enter Tryz.func134,Tryz.ntmps134
 go_wp2
 all_goals (try refine wp_loop_rounds 3 ?_)
 repeat any_goals (first | (rw [rounds_succ];go_wp2) | (go_region;go_wp2))
 all_goals
   go_returns
   refine ⟨ret_x ?_,by go_grown⟩
   have h2:=h1.out
   clear h1 i0 i1
   simp_all [Xf.meet]
set_option maxHeartbeats 2000000 in
theorem meet13_any (b c b' c' : Int) (w : World) (h0 : ¬ ((1 : Int) = 3 ∧ b = b' ∧ c = c')) :
   Calls Tryz.prog 134 #[.agg #[.int .i64 1,.int .i64 b,.int .i64 c],.agg #[.int .i64 3,.int .i64 b',.int .i64 c']] w fun e w' => e = .returned (.agg #[.int .i64 (Xf.meet ⟨1,b,c⟩ ⟨3,b',c'⟩).k,.int .i64 (Xf.meet ⟨1,b,c⟩ ⟨3,b',c'⟩).b,.int .i64 (Xf.meet ⟨1,b,c⟩ ⟨3,b',c'⟩).c]) ∧ Below w.heap.size w w':=by
 have i0 : ∀ (x0 x1 x2 y0 y1 y2 : Value) (w : World),(Instr.index 277 (.agg #[x0,x1,x2,y0,y1,y2]) (.int .i64 0)).run Tryz.prog w = .ok (.agg #[x0,x1,x2]) w:=fun _ _ _ _ _ _ _ => by kernel_rfl
 have i1 : ∀ (x0 x1 x2 y0 y1 y2 : Value) (w : World),(Instr.index 277 (.agg #[x0,x1,x2,y0,y1,y2]) (.int .i64 1)).run Tryz.prog w = .ok (.agg #[y0,y1,y2]) w:=fun _ _ _ _ _ _ _ => by kernel_rfl
 have h1:=Lib.hid h0
 clear h0
 go_enter Tryz.func134,Tryz.ntmps134
 go_wp2
 all_goals (try refine wp_loop_rounds 3 ?_)
 repeat any_goals (first | (rw [rounds_succ];go_wp2) | (go_region;go_wp2))
 all_goals
   go_returns
   refine ⟨ret_x ?_,by go_grown⟩
   have h2:=h1.out
   clear h1 i0 i1
   simp_all [Xf.meet]
set_option maxHeartbeats 2000000 in
theorem meet21_any (b c b' c' : Int) (w : World) (h0 : ¬ ((2 : Int) = 1 ∧ b = b' ∧ c = c')) :
   Calls Tryz.prog 134 #[.agg #[.int .i64 2,.int .i64 b,.int .i64 c],.agg #[.int .i64 1,.int .i64 b',.int .i64 c']] w fun e w' => e = .returned (.agg #[.int .i64 (Xf.meet ⟨2,b,c⟩ ⟨1,b',c'⟩).k,.int .i64 (Xf.meet ⟨2,b,c⟩ ⟨1,b',c'⟩).b,.int .i64 (Xf.meet ⟨2,b,c⟩ ⟨1,b',c'⟩).c]) ∧ Below w.heap.size w w':=by
 have i0 : ∀ (x0 x1 x2 y0 y1 y2 : Value) (w : World),(Instr.index 277 (.agg #[x0,x1,x2,y0,y1,y2]) (.int .i64 0)).run Tryz.prog w = .ok (.agg #[x0,x1,x2]) w:=fun _ _ _ _ _ _ _ => by kernel_rfl
 have i1 : ∀ (x0 x1 x2 y0 y1 y2 : Value) (w : World),(Instr.index 277 (.agg #[x0,x1,x2,y0,y1,y2]) (.int .i64 1)).run Tryz.prog w = .ok (.agg #[y0,y1,y2]) w:=fun _ _ _ _ _ _ _ => by kernel_rfl
 have h1:=Lib.hid h0
 clear h0
 go_enter Tryz.func134,Tryz.ntmps134
 go_wp2
 all_goals (try refine wp_loop_rounds 3 ?_)
 repeat any_goals (first | (rw [rounds_succ];go_wp2) | (go_region;go_wp2))
 all_goals
   go_returns
   refine ⟨ret_x ?_,by go_grown⟩
   have h2:=h1.out
   clear h1 i0 i1
   simp_all [Xf.meet]
set_option maxHeartbeats 2000000 in
theorem meet22_any (b c b' c' : Int) (w : World) (h0 : ¬ ((2 : Int) = 2 ∧ b = b' ∧ c = c')) :
   Calls Tryz.prog 134 #[.agg #[.int .i64 2,.int .i64 b,.int .i64 c],.agg #[.int .i64 2,.int .i64 b',.int .i64 c']] w fun e w' => e = .returned (.agg #[.int .i64 (Xf.meet ⟨2,b,c⟩ ⟨2,b',c'⟩).k,.int .i64 (Xf.meet ⟨2,b,c⟩ ⟨2,b',c'⟩).b,.int .i64 (Xf.meet ⟨2,b,c⟩ ⟨2,b',c'⟩).c]) ∧ Below w.heap.size w w':=by
 have i0 : ∀ (x0 x1 x2 y0 y1 y2 : Value) (w : World),(Instr.index 277 (.agg #[x0,x1,x2,y0,y1,y2]) (.int .i64 0)).run Tryz.prog w = .ok (.agg #[x0,x1,x2]) w:=fun _ _ _ _ _ _ _ => by kernel_rfl
 have i1 : ∀ (x0 x1 x2 y0 y1 y2 : Value) (w : World),(Instr.index 277 (.agg #[x0,x1,x2,y0,y1,y2]) (.int .i64 1)).run Tryz.prog w = .ok (.agg #[y0,y1,y2]) w:=fun _ _ _ _ _ _ _ => by kernel_rfl
 have h1:=Lib.hid h0
 clear h0
 go_enter Tryz.func134,Tryz.ntmps134
 go_wp2
 all_goals (try refine wp_loop_rounds 3 ?_)
 repeat any_goals (first | (rw [rounds_succ];go_wp2) | (go_region;go_wp2))
 all_goals
   go_returns
   refine ⟨ret_x ?_,by go_grown⟩
   have h2:=h1.out
   clear h1 i0 i1
   simp_all [Xf.meet]
set_option maxHeartbeats 2000000 in
theorem meet23_any (b c b' c' : Int) (w : World) (h0 : ¬ ((2 : Int) = 3 ∧ b = b' ∧ c = c')) :
   Calls Tryz.prog 134 #[.agg #[.int .i64 2,.int .i64 b,.int .i64 c],.agg #[.int .i64 3,.int .i64 b',.int .i64 c']] w fun e w' => e = .returned (.agg #[.int .i64 (Xf.meet ⟨2,b,c⟩ ⟨3,b',c'⟩).k,.int .i64 (Xf.meet ⟨2,b,c⟩ ⟨3,b',c'⟩).b,.int .i64 (Xf.meet ⟨2,b,c⟩ ⟨3,b',c'⟩).c]) ∧ Below w.heap.size w w':=by
 have i0 : ∀ (x0 x1 x2 y0 y1 y2 : Value) (w : World),(Instr.index 277 (.agg #[x0,x1,x2,y0,y1,y2]) (.int .i64 0)).run Tryz.prog w = .ok (.agg #[x0,x1,x2]) w:=fun _ _ _ _ _ _ _ => by kernel_rfl
 have i1 : ∀ (x0 x1 x2 y0 y1 y2 : Value) (w : World),(Instr.index 277 (.agg #[x0,x1,x2,y0,y1,y2]) (.int .i64 1)).run Tryz.prog w = .ok (.agg #[y0,y1,y2]) w:=fun _ _ _ _ _ _ _ => by kernel_rfl
 have h1:=Lib.hid h0
 clear h0
 go_enter Tryz.func134,Tryz.ntmps134
 go_wp2
 all_goals (try refine wp_loop_rounds 3 ?_)
 repeat any_goals (first | (rw [rounds_succ];go_wp2) | (go_region;go_wp2))
 all_goals
   go_returns
   refine ⟨ret_x ?_,by go_grown⟩
   have h2:=h1.out
   clear h1 i0 i1
   simp_all [Xf.meet]
set_option maxHeartbeats 2000000 in
theorem meet31_any (b c b' c' : Int) (w : World) (h0 : ¬ ((3 : Int) = 1 ∧ b = b' ∧ c = c')) :
   Calls Tryz.prog 134 #[.agg #[.int .i64 3,.int .i64 b,.int .i64 c],.agg #[.int .i64 1,.int .i64 b',.int .i64 c']] w fun e w' => e = .returned (.agg #[.int .i64 (Xf.meet ⟨3,b,c⟩ ⟨1,b',c'⟩).k,.int .i64 (Xf.meet ⟨3,b,c⟩ ⟨1,b',c'⟩).b,.int .i64 (Xf.meet ⟨3,b,c⟩ ⟨1,b',c'⟩).c]) ∧ Below w.heap.size w w':=by
 have i0 : ∀ (x0 x1 x2 y0 y1 y2 : Value) (w : World),(Instr.index 277 (.agg #[x0,x1,x2,y0,y1,y2]) (.int .i64 0)).run Tryz.prog w = .ok (.agg #[x0,x1,x2]) w:=fun _ _ _ _ _ _ _ => by kernel_rfl
 have i1 : ∀ (x0 x1 x2 y0 y1 y2 : Value) (w : World),(Instr.index 277 (.agg #[x0,x1,x2,y0,y1,y2]) (.int .i64 1)).run Tryz.prog w = .ok (.agg #[y0,y1,y2]) w:=fun _ _ _ _ _ _ _ => by kernel_rfl
 have h1:=Lib.hid h0
 clear h0
 go_enter Tryz.func134,Tryz.ntmps134
 go_wp2
 all_goals (try refine wp_loop_rounds 3 ?_)
 repeat any_goals (first | (rw [rounds_succ];go_wp2) | (go_region;go_wp2))
 all_goals
   go_returns
   refine ⟨ret_x ?_,by go_grown⟩
   have h2:=h1.out
   clear h1 i0 i1
   simp_all [Xf.meet]
set_option maxHeartbeats 2000000 in
theorem meet32_any (b c b' c' : Int) (w : World) (h0 : ¬ ((3 : Int) = 2 ∧ b = b' ∧ c = c')) :
   Calls Tryz.prog 134 #[.agg #[.int .i64 3,.int .i64 b,.int .i64 c],.agg #[.int .i64 2,.int .i64 b',.int .i64 c']] w fun e w' => e = .returned (.agg #[.int .i64 (Xf.meet ⟨3,b,c⟩ ⟨2,b',c'⟩).k,.int .i64 (Xf.meet ⟨3,b,c⟩ ⟨2,b',c'⟩).b,.int .i64 (Xf.meet ⟨3,b,c⟩ ⟨2,b',c'⟩).c]) ∧ Below w.heap.size w w':=by
 have i0 : ∀ (x0 x1 x2 y0 y1 y2 : Value) (w : World),(Instr.index 277 (.agg #[x0,x1,x2,y0,y1,y2]) (.int .i64 0)).run Tryz.prog w = .ok (.agg #[x0,x1,x2]) w:=fun _ _ _ _ _ _ _ => by kernel_rfl
 have i1 : ∀ (x0 x1 x2 y0 y1 y2 : Value) (w : World),(Instr.index 277 (.agg #[x0,x1,x2,y0,y1,y2]) (.int .i64 1)).run Tryz.prog w = .ok (.agg #[y0,y1,y2]) w:=fun _ _ _ _ _ _ _ => by kernel_rfl
 have h1:=Lib.hid h0
 clear h0
 go_enter Tryz.func134,Tryz.ntmps134
 go_wp2
 all_goals (try refine wp_loop_rounds 3 ?_)
 repeat any_goals (first | (rw [rounds_succ];go_wp2) | (go_region;go_wp2))
 all_goals
   go_returns
   refine ⟨ret_x ?_,by go_grown⟩
   have h2:=h1.out
   clear h1 i0 i1
   simp_all [Xf.meet]
set_option maxHeartbeats 2000000 in
theorem meet33_any (b c b' c' : Int) (w : World) (h0 : ¬ ((3 : Int) = 3 ∧ b = b' ∧ c = c')) :
   Calls Tryz.prog 134 #[.agg #[.int .i64 3,.int .i64 b,.int .i64 c],.agg #[.int .i64 3,.int .i64 b',.int .i64 c']] w fun e w' => e = .returned (.agg #[.int .i64 (Xf.meet ⟨3,b,c⟩ ⟨3,b',c'⟩).k,.int .i64 (Xf.meet ⟨3,b,c⟩ ⟨3,b',c'⟩).b,.int .i64 (Xf.meet ⟨3,b,c⟩ ⟨3,b',c'⟩).c]) ∧ Below w.heap.size w w':=by
 have i0 : ∀ (x0 x1 x2 y0 y1 y2 : Value) (w : World),(Instr.index 277 (.agg #[x0,x1,x2,y0,y1,y2]) (.int .i64 0)).run Tryz.prog w = .ok (.agg #[x0,x1,x2]) w:=fun _ _ _ _ _ _ _ => by kernel_rfl
 have i1 : ∀ (x0 x1 x2 y0 y1 y2 : Value) (w : World),(Instr.index 277 (.agg #[x0,x1,x2,y0,y1,y2]) (.int .i64 1)).run Tryz.prog w = .ok (.agg #[y0,y1,y2]) w:=fun _ _ _ _ _ _ _ => by kernel_rfl
 have h1:=Lib.hid h0
 clear h0
 go_enter Tryz.func134,Tryz.ntmps134
 go_wp2
 all_goals (try refine wp_loop_rounds 3 ?_)
 repeat any_goals (first | (rw [rounds_succ];go_wp2) | (go_region;go_wp2))
 all_goals
   go_returns
   refine ⟨ret_x ?_,by go_grown⟩
   have h2:=h1.out
   clear h1 i0 i1
   simp_all [Xf.meet]
set_option maxHeartbeats 1000000 in
theorem meet_any (k b c k' b' c' : Int) (w : World) (v1 : 0 ≤ k) (v2 : k ≤ 4) (v3 : 0 ≤ k') (v4 : k' ≤ 4) :
   Calls Tryz.prog 134 #[.agg #[.int .i64 k,.int .i64 b,.int .i64 c],.agg #[.int .i64 k',.int .i64 b',.int .i64 c']] w fun e w' => e = .returned (.agg #[.int .i64 (Xf.meet ⟨k,b,c⟩ ⟨k',b',c'⟩).k,.int .i64 (Xf.meet ⟨k,b,c⟩ ⟨k',b',c'⟩).b,.int .i64 (Xf.meet ⟨k,b,c⟩ ⟨k',b',c'⟩).c]) ∧ Below w.heap.size w w':=by
 by_cases h0 : k = k' ∧ b = b' ∧ c = c'
 · obtain ⟨rfl,rfl,rfl⟩:=h0
   clear v1 v2 v3 v4
   go_enter Tryz.func134,Tryz.ntmps134
   go_wp2
   all_goals
     go_returns
     exact ⟨ret_x (by simp_all [Xf.meet]),by go_grown⟩
 · by_cases h1 : (k == 0 || k' == 0 || k == 4 || k' == 4) = true
   · clear v1 v2 v3 v4
     go_enter Tryz.func134,Tryz.ntmps134
     go_wp2
     all_goals first | (go_returns;exact ⟨ret_x (by simp_all [Xf.meet]),by go_grown⟩) | (exfalso;simp_all;done) | (exfalso;simp_all;omega)
   · simp at h1
     obtain rfl | rfl | rfl : k = 1 ∨ k = 2 ∨ k = 3:=by omega
     · obtain rfl | rfl | rfl : k' = 1 ∨ k' = 2 ∨ k' = 3:=by omega
       · exact meet11_any b c b' c' w h0
       · exact meet12_any b c b' c' w h0
       · exact meet13_any b c b' c' w h0
     · obtain rfl | rfl | rfl : k' = 1 ∨ k' = 2 ∨ k' = 3:=by omega
       · exact meet21_any b c b' c' w h0
       · exact meet22_any b c b' c' w h0
       · exact meet23_any b c b' c' w h0
     · obtain rfl | rfl | rfl : k' = 1 ∨ k' = 2 ∨ k' = 3:=by omega
       · exact meet31_any b c b' c' w h0
       · exact meet32_any b c b' c' w h0
       · exact meet33_any b c b' c' w h0
end Go.Proofs.YtincpmdldpakkaaGreatDoor
namespace Go.Df
open Go.RowKit
abbrev SXb (X : List Nat) (ga : Nat) (W w' : World) : Prop:=Kept X W w' ∧ ∀ o,w'.cell? ⟨ga,o,none⟩ = W.cell? ⟨ga,o,none⟩
theorem SXb.of {X : List Nat} {ga : Nat} {W w' : World} (h : Kept X W w') (ha : ga < W.heap.size) (xa : ga ∉ X) : SXb X ga W w':=⟨h,fun o => h.cell ga o ha xa⟩
theorem keptNil {X : List Nat} {w w' : World} (h : Kept [] w w') : Kept X w w':=keptWide h (fun x hx => by simp at hx)
theorem keptAt {X : List Nat} {V wc w6 : World} (_hx : Kept X wc w6) (h : Kept [] V wc) : Kept [] V wc:=h
end Go.Df
namespace Go.Proofs.YtincpmdldpakkaaGreatDoor
open Go.RowKit Go.Df Go.Df.Iv Go.Df.Sp
attribute [local go_sem ↓] Go.wp_at_zero Go.wp_at_succ
theorem Mem.at_ {p : Vb} {K : Kn} {w0 : World} {b : Nat} {O : Nat → Prop} {G : Gh} {V wc w6 : World} {s : St} {X : List Nat} (h : Mem p K w0 b O G V s) (_hx : Kept X wc w6) (hk : Kept [] V wc) : Mem p K w0 b O G wc s:=h.kept hk
theorem int_info1 : (Tryz.prog.info? 3).map (fun i => (i.zero,i.size,i.bytes)) = some (some (.int .i64 0),1,8):=by kernel_rfl
theorem D.kind (x : D) : 0 ≤ x.1.k ∧ x.1.k ≤ 4:=by
 have h:=x.2.1
 unfold Xf.rcheck at h
 split at h
 · cases h
 · omega
theorem meetD_any (x y : D) (x0 x1 x2 y0 y1 y2 z0 z1 z2 : Int) (hx : x.1 = ⟨x0,x1,x2⟩) (hy : y.1 = ⟨y0,y1,y2⟩) (hz : (meet x y).1 = ⟨z0,z1,z2⟩) (w : World) :
   Calls Tryz.prog 134 #[.agg #[.int .i64 x0,.int .i64 x1,.int .i64 x2],.agg #[.int .i64 y0,.int .i64 y1,.int .i64 y2]] w fun e w' => e = .returned (.agg #[.int .i64 z0,.int .i64 z1,.int .i64 z2]) ∧ Below w.heap.size w w':=by
 have kx:=D.kind x
 have ky:=D.kind y
 rw [hx] at kx
 rw [hy] at ky
 have h:=meet_any x0 x1 x2 y0 y1 y2 w kx.1 kx.2 ky.1 ky.2
 have hm : (meet x y).1 = Xf.meet x.1 y.1:=rfl
 rw [hx,hy,hz] at hm
 rw [← hm] at h
 exact h
set_option maxRecDepth 100000 in
set_option maxHeartbeats 40000000 in
theorem include_any {p : Vb} {K : Kn} {w0 : World} {b : Nat} {O : Nat → Prop} {G : Gh} {s : St} (w : World) (n a d : Nat) (y : D) (y0 y1 y2 : Int) (hy : y.1 = ⟨y0,y1,y2⟩) (hm : Mem p K w0 b O G w s) (hw : Wf p s) (hN1 : K.n1 = p.ns.length) (hN2 : K.n1 ≤ 8192) (hF : p.F ≤ 1024) (hmu : mu0 p ≤ 1000000) (hn : n < p.ns.length) (ha : a < p.F.toNat) (hd : d < p.F.toNat) :
   Calls Tryz.prog 76 #[.pointer (some ⟨b,0,none⟩),.int .i64 n,.int .i64 a,.int .i64 d,.agg #[.int .i64 y0,.int .i64 y1,.int .i64 y2]] w (GetS p K w0 b O G w s (s.inc n a d y)):=by
 obtain ⟨s',hs'⟩ : ∃ s',s' = s.inc n a d y:=⟨_,rfl⟩
 rw [← hs']
 have HS:=Lib.hid hs'
 obtain ⟨i1,hi1,hz3,hz4,hz5⟩:=info_parts int_info1
 have hnK : n < K.n1:=by omega
 have hnK' : (n : Int) < (K.n1 : Int):=by omega
 have HM:=Lib.hid hm
 have HKB : Hid (∀ i,s.k i ≤ 1000000):=fun i => by have:=hw.kb i;omega
 have HLB : Hid (∀ i key,i = 1 ∨ i = 2 → (s.ls i n key).length ≤ 1024):=fun i key hi => by
   have h1:=nodup_le (hw.ln i n key hi) (N:=p.F.toNat) (fun x hx => by
     rcases hi with rfl | rfl
     · exact (hw.rng _ _ _ ((hw.l1 _ _ _).1 hx)).2.2
     · exact (hw.rng _ _ _ ((hw.l2 _ _ _).1 hx)).2.1)
   omega
 have HPQ0 : Hid ((∀ x,x ∈ s.q ↔ s.pd x ≠ []) ∧ s.q.Nodup ∧ ∀ x ∈ s.q,x < K.n1):=⟨hw.qp,hw.qn,fun x hx => by
   obtain ⟨z,hz⟩:=List.exists_mem_of_ne_nil _ ((hw.qp x).1 hx)
   rw [hN1]
   exact (hw.pr x z hz).1⟩
 obtain ⟨x0,hx0⟩ : ∃ v,(s.T n a d).1.k = v:=⟨_,rfl⟩
 obtain ⟨x1,hx1⟩ : ∃ v,(s.T n a d).1.b = v:=⟨_,rfl⟩
 obtain ⟨x2,hx2⟩ : ∃ v,(s.T n a d).1.c = v:=⟨_,rfl⟩
 obtain ⟨z0,hz0'⟩ : ∃ v,(meet (s.T n a d) y).1.k = v:=⟨_,rfl⟩
 obtain ⟨z1,hz1'⟩ : ∃ v,(meet (s.T n a d) y).1.b = v:=⟨_,rfl⟩
 obtain ⟨z2,hz2'⟩ : ∃ v,(meet (s.T n a d) y).1.c = v:=⟨_,rfl⟩
 have eX : (s.T n a d).1 = ⟨x0,x1,x2⟩:=by rw [← hx0,← hx1,← hx2]
 have eZ : (meet (s.T n a d) y).1 = ⟨z0,z1,z2⟩:=by rw [← hz0',← hz1',← hz2']
 have HX : Hid (xv (s.T n a d) = .agg #[.int .i64 x0,.int .i64 x1,.int .i64 x2]):=by show _ = _;unfold xv;rw [eX]
 have HZ : Hid (xv (meet (s.T n a d) y) = .agg #[.int .i64 z0,.int .i64 z1,.int .i64 z2]):=by show _ = _;unfold xv;rw [eZ]
 have HME : Hid (∀ w9,Calls Tryz.prog 134 #[.agg #[.int .i64 x0,.int .i64 x1,.int .i64 x2],.agg #[.int .i64 y0,.int .i64 y1,.int .i64 y2]] w9 fun e w' => e = .returned (.agg #[.int .i64 z0,.int .i64 z1,.int .i64 z2]) ∧ Below w9.heap.size w9 w'):=fun w9 => meetD_any _ _ _ _ _ _ _ _ _ _ _ eX hy eZ w9
 have HTOP : Hid (s.T n a d = top ↔ x0 = 0):=by
   show _ ↔ _
   rw [← kind_top,eX]
 have HDEC : Hid (meet (s.T n a d) y = s.T n a d ↔ (z0 = x0 ∧ z1 = x1 ∧ z2 = x2)):=by
   show _ ↔ _
   constructor
   · intro h
     rw [h,eX] at eZ
     injection eZ with e1 e2 e3
     exact ⟨e1.symm,e2.symm,e3.symm⟩
   · rintro ⟨rfl,rfl,rfl⟩
     exact Subtype.ext (eZ.trans eX.symm)
 have HGX : Hid (∀ w9,Kept [] w w9 → Calls Tryz.prog 83 #[.agg #[.slice (some ⟨K.tr 0,0,none⟩) K.n1 K.n1],.int .i64 n,.agg #[.int .i64 (a : Int),.int .i64 (d : Int)]] w9 fun e w' => e = .returned (.agg #[.int .i64 x0,.int .i64 x1,.int .i64 x2]) ∧ Below w9.heap.size w9 w'):=fun w9 hk9 =>
   getx_any (K.tr 0) K.n1 K.n1 n a d (G.m 0) (G.c 0) G.jv w9 (hm.kept hk9).tj hnK (by omega) (by omega) x0 x1 x2 (by rw [← HX.out];exact hm.hj n a d hnK)
 clear hx0 hx1 hx2 hz0' hz1' hz2' eX eZ hy hm hw hs' hmu
 have HN1:=Lib.hid hN1
 clear hN1
 go_enter Tryz.func76,Tryz.ntmps76
 go_upto_region 1 with fail
 refine wp_named (fun W => ∃ b0,w.heap.size = b0 ∧ Blk W b0 [.int .i64 y0,.int .i64 y1,.int .i64 y2] ∧ Below w.heap.size w W) ⟨_,rfl,?_,?_⟩ ?_
 · exact kbn
 · go_grown
 rintro W ⟨b0,e0,B0,hB⟩
 rw [e0]
 have G0 : w.heap.size ≤ b0:=by omega
 clear e0
 have ⟨L0,C0,F0⟩:=B0
 have hkW : Kept [] w W:=(Kept.refl _ _).call hB
 have Bw:=(HM.out.kept hkW).box
 unfold sbox at Bw
 have ⟨LW,CW,FW⟩:=Bw
 go_upto_region 2 with fail
 refine wp_named (fun V => ∃ g,W.heap.size = g ∧ Blk V g [.int .i64 (a : Int),.int .i64 (d : Int)] ∧ Kept [] W V) ⟨_,rfl,Blk.new _ _ _ _ rfl,(Kept.refl _ _).alloc _⟩ ?_
 rintro V1 ⟨b1,e1,B1,hkV1⟩
 rw [e1]
 have g1 : W.heap.size ≤ b1:=by omega
 have ⟨L1,C1,F1⟩:=B1
 have hk1 : Kept [] w V1:=keptTrans hkW hkV1
 have B0':=hkV1.blk (by simp) B0
 have ⟨L0',C0',F0'⟩:=B0'
 have ⟨LW1,CW1,FW1⟩:=hkV1.blk (by simp) Bw
 clear CW FW C0 F0 e1
 go_cut [11] (fun s9 wx => ∃ g : Nat,s9 = .pointer (some ⟨g,0,none⟩) ∧ Blk wx g [.int .i64 x0,.int .i64 x1,.int .i64 x2] ∧ Kept [] V1 wx)
 case first =>
   go_region_held3 (fun w' => SX0 V1 w') (exact kp0) (first | (go_at_call 83;refine (HGX.out _ (keptTrans hk1 (by (exact kpt0)))).mono ?_;rintro e w2 ⟨rfl,hb2⟩;obtain ⟨hc2,hf2,hg2⟩:=bcell hb2;have hz2:=hb2.size;try simp at hz2))
   all_goals
     go_wp2_with fail
     go_meet
     refine ⟨_,rfl,?_,?_⟩
     · (exact kpb)
     · (exact kpt0)
 case rest =>
 obtain ⟨b2,rfl,B2,hk12⟩:=hcut
 have ⟨L2,C2,F2⟩:=B2
 have B0'':=hk12.blk (by simp) B0'
 have ⟨L0'',C0'',F0''⟩:=B0''
 have B1':=hk12.blk (by simp) B1
 have ⟨L1',C1',F1'⟩:=B1'
 clear C0' F0' C1 F1 CW1 FW1
 go_upto_region 4 with (go_at_call 134;refine (HME.out _).mono ?_;rintro e w3 ⟨rfl,hb3⟩)
 refine wp_named (fun V => ∃ g,w3.heap.size = g ∧ Blk V g [.int .i64 z0,.int .i64 z1,.int .i64 z2] ∧ Kept [] w3 V) ⟨_,rfl,Blk.new _ _ _ _ rfl,(Kept.refl _ _).alloc _⟩ ?_
 rintro V3 ⟨b3,e3,B3,hkV3⟩
 rw [e3]
 
 have ⟨L3,C3,F3⟩:=B3
 have hk23 : Kept [] wc V3:=keptTrans ((Kept.refl _ _).call hb3) hkV3
 have ⟨L2',C2',F2'⟩:=hk23.blk (by simp) B2
 have B1'':=hk23.blk (by simp) B1'
 have ⟨L1'',C1'',F1''⟩:=B1''
 have hk3 : Kept [] w V3:=keptTrans (keptTrans hk1 hk12) hk23
 have M3:=Lib.hid (HM.out.kept hk3)
 have FY0 : Hid (Fy K O O G G s s w V3):=Fy.kept K O G s hk3
 have Bz:=M3.out.box
 unfold sbox at Bz
 have ⟨LZ,CZ,FZ⟩:=Bz
 have g1' : w.heap.size ≤ b1:=Nat.le_trans hkW.size g1
 have g3' : w.heap.size ≤ b3:=by rw [← e3];exact Nat.le_trans (Nat.le_trans hk1.size hk12.size) hb3.size
 have SC1 : Hid (SafeB O V3 b1):=HM.out.fresh g1' L1''
 have SC3 : Hid (SafeB O V3 b3):=HM.out.fresh g3' L3
 have BC1:=B1''
 have BC3:=B3
 clear C0'' F0'' C1' F1' C2 F2 e3
 by_cases hsame : meet (s.T n a d) y = s.T n a d
 · obtain ⟨rfl,rfl,rfl⟩:=HDEC.out.1 hsame
   have HE : Hid (s' = s):=by show _ = _;rw [HS.out];unfold St.inc;rw [if_pos hsame]
   clear hsame HDEC
   go_wp2_with fail
   go_end0
   exact ⟨O,G,rfl,M3.out.eq HE.out.symm,by rw [HE.out];exact FY0.out⟩
 · have hne : ¬ (z0 = x0 ∧ z1 = x1 ∧ z2 = x2):=fun h => hsame (HDEC.out.2 h)
   have HNE:=Lib.hid hsame
   clear hsame
   go_cut [28] (fun s9 wx => s9 = .bool false ∧ V3 = wx)
   case first =>
     go_wp2_with fail
     all_goals
       go_meet
       exact ⟨rfl,rfl⟩
   case rest =>
   obtain ⟨rfl,rfl⟩:=hcut
   clear hne
   have HK1 : Hid (∀ i,s.k i ≤ 1000001):=fun i => by have:=HKB.out i;omega
   by_cases htop : x0 = 0
   · have HT0:=Lib.hid (HTOP.out.2 htop)
     subst htop
     go_upto_region 6 with fail
     obtain ⟨s1,hs1⟩ : ∃ s1,s1 = s.addL 1 n a d:=⟨_,rfl⟩
     have HL1 : Hid ((s.ls 1 n a).length ≤ 1024):=HLB.out 1 a (.inl rfl)
     have HL2 : Hid ((s1.ls 2 n d).length ≤ 1024):=by
       have h1:=HLB.out 2 d (.inr rfl)
       show _ ≤ _
       rw [hs1]
       simpa [St.addL] using h1
     have HK2 : Hid (∀ i,s1.k i ≤ 1000001):=fun i => by
       have h1:=HKB.out i
       rw [hs1]
       show bump s.k 1 i ≤ _
       unfold bump
       split <;> omega
     have HS1:=Lib.hid hs1
     clear CZ FZ C1'' F1'' C3 F3 C2' F2' hs1
     obtain ⟨Al,nl,cl,hpl,hnl⟩ : ∃ A9 m9 c9,G.wv 1 n (.int .i64 (a : Nat)) = .slice A9 m9 c9 ∧ m9 = (s.ls 1 n a).length:=by
       obtain ⟨A9,m9,c9,h1,h2,-⟩:=M3.out.snap (i:=1) (a:=a) (by omega) hnK
       exact ⟨A9,m9,c9,h1,h2⟩
     have hnlb : nl ≤ 1024:=by rw [hnl];exact HL1.out
     have OWN : Hid (V3.ownsRow w0.heap.size 3 1 (.slice Al nl cl) nl ((ofNats (s.ls 1 n a)).map (Value.int .i64))):=Lib.hid (by have h9:=M3.out.hw 1 n a (by omega) hnK;rw [hpl,← hnl] at h9;exact h9)
     have HGET : Hid (∀ w9,Kept [] V3 w9 → Calls Tryz.prog 82 #[.agg #[.slice (some ⟨K.tr 1,0,none⟩) K.n1 K.n1],.int .i64 n,.int .i64 (a : Nat)] w9 fun e w' => e = .returned (.slice Al nl cl) ∧ Below w9.heap.size w9 w'):=Lib.hid (fun w9 hk9 => by
       have h9:=getl_any (K.tr 1) K.n1 K.n1 n a (G.m 1) (G.c 1) (G.wv 1) w9 ((M3.out.kept hk9).tw 1 (by omega)) hnK (by omega)
       rw [hpl] at h9
       exact h9)
     have Bs:=M3.out.box
     unfold sbox at Bs
     have ⟨LB,CB,FB⟩:=Bs
     obtain ⟨X,hX⟩ : ∃ X,X = K.tr 1 :: ((G.m 1 n).toList ++ (Value.slice Al nl cl).ownBlock.toList):=⟨_,rfl⟩
     have hOL : OwnL G 1 n a (Value.slice Al nl cl).ownBlock.toList:=fun y hy => ⟨by omega,by rw [hpl];simpa using hy⟩
     have xb : b ∉ X:=by rw [hX];exact M3.out.nXt (by omega) hnK hOL M3.out.btag (by unfold rowT;(repeat' split) <;> decide) (by decide)
     have hXo : ∀ y ∈ (Value.slice Al nl cl).ownBlock.toList,y ∈ X:=fun y hy => by rw [hX];exact List.mem_cons_of_mem _ (List.mem_append.2 (.inr hy))
     have hXp : ∀ y ∈ K.tr 1 :: (G.m 1 n).toList,y ∈ X:=fun y hy => by
       rw [hX]
       rcases List.mem_cons.1 hy with h1 | h1
       · exact List.mem_cons.2 (.inl h1)
       · exact List.mem_cons_of_mem _ (List.mem_append.2 (.inl h1))
     have HXo:=Lib.hid hXo
     have HXp:=Lib.hid hXp
     have HPL:=Lib.hid hpl
     have HNL:=Lib.hid hnl
     have hbase : w0.heap.size ≤ V3.heap.size:=M3.out.low.size
     have HAP : Hid ((ofNats (s.ls 1 n a)).map (Value.int .i64) ++ [.int .i64 (d : Nat)] = (ofNats (s.ls 1 n a ++ [d])).map (Value.int .i64)):=Lib.hid (by simp [ofNats])
     have hcn : G.c 1 n < maxLen:=by
       have h1:=M3.out.cb 1 n (by omega) hnK
       have h2:=HK1.out 1
       unfold maxLen
       omega
     have hlb:=LB
     clear hX hOL hpl hnl hXo hXp
     go_cut [48] (fun s9 wx => s9 = .tuple #[] ∧ ∃ O9 G9,Mem p K w0 b O9 G9 wx (s.addL 1 n a d) ∧ Fy K O O9 G G9 s (s.addL 1 n a d) V3 wx)
     case first =>
       go_region_held3 (fun w' => SXb X b V3 w') (first | (with_reducible assumption) | (exact SXb.of (keptNil (by (exact kpt0))) hlb xb)) (first
         | (go_at_call 82;refine (HGET.out _ (by (exact kpt0))).mono ?_;rintro e w5 ⟨rfl,hb5⟩;have hk5 : Kept [] V3 w5:=Kept.call (by (exact kpt0)) hb5;have hs5 : SXb X b V3 w5:=SXb.of (keptNil hk5) hlb xb)
         | (refine step_append_far _ rfl (.tmp 44) (.tmp 46) 30 rfl w0.heap.size 3 i1 (.int .i64 0) 1 8 Tryz.underlying30 hi1 hz3 hz4 hz5 rfl (by decide) (.slice Al nl cl) nl _ rfl (own_kept2 (X:=[]) OWN.out (by (exact kpt0)) (by simp)) _ 1 1 [.int .i64 (d : Nat)] rfl (by (repeat' first | (with_reducible refine Rd.drew ?_) | (with_reducible refine Rd.later ?_ hb5) | ((with_reducible refine Rd.new1 _ _ _ _ ?_);simp;done) | (with_reducible refine Rd.alloc ?_ _))) (by intro u hu;simp at hu;subst hu;rfl) (nl + 1) rfl _ HAP.out (by unfold maxLen;omega) (by omega) (by have:=hk5.size;first | omega | (simp;omega)) ?_;intro A6 c6 w6 hown6 hk6 hfar6;have HMc:=Lib.hid (M3.out.at_ hk6 (by (exact kpt0)));have hkc:=keptAt hk6 (V:=V3) (by (exact kpt0));have hk6V : Kept (Value.slice Al nl cl).ownBlock.toList V3 w6:=(keptNil hkc).next hk6 (fun y hy => Or.inl hy);have hs6 : SXb X b V3 w6:=SXb.of (keptWide hk6V HXo.out) hlb xb;have HO6:=Lib.hid hown6;have HK6:=Lib.hid hk6;have HF6:=Lib.hid hfar6;have HKC:=Lib.hid hkc;have HKV:=Lib.hid hk6V;clear hown6 hk6 hfar6 hkc hk6V)
         | (go_at_call 133;refine (putl_any (K.tr 1) K.n1 K.n1 n a (G.m 1) (G.c 1) (G.wv 1) A6 (nl + 1) c6 _ (HMc.out.tw1 (by omega) hnK (by rw [HPL.out];exact HK6.out)) hnK (by omega) hcn).mono ?_;intro e w7 hput;have hput2:=hput;obtain ⟨m7,-,-,hk7,-,-⟩:=hput2;have hs7 : SXb X b V3 w7:=SXb.of ((keptWide HKV.out HXo.out).next hk7 (fun y hy => Or.inl (HXp.out y hy))) hlb xb;obtain ⟨O7,G7,rfl,M7,F7⟩:=HMc.out.put_list (by omega) hnK (by rw [List.length_append,← HNL.out];rfl) (by rw [HPL.out];exact HK6.out) HO6.out (by rw [HPL.out];exact HF6.out) hput;have F7':=(Fy.kept K O G s HKC.out).trans F7;clear hput))
       all_goals
         (try go_wp2_with fail)
         go_meet
         exact ⟨rfl,O7,G7,M7,F7'⟩
     case rest =>
     obtain ⟨rfl,O4,G4,M4',F4⟩:=hcut
     have M4:=Lib.hid M4'
     clear CB FB hlb LB xb hbase hnlb hcn M4'
     obtain ⟨V4,hV4⟩ : ∃ V,V = wc:=⟨_,rfl⟩
     subst hV4
     rw [← HS1.out] at M4 F4
     have C14 : Hid (SafeB O4 V4 b1):=SC1.out.fx F4.fx
     have C34 : Hid (SafeB O4 V4 b3):=SC3.out.fx F4.fx
     have D14:=SC1.out.blk F4.fx BC1
     have D34:=SC3.out.blk F4.fx BC3
     have FY4:=Lib.hid (FY0.out.trans F4)
     go_upto_region 7 with fail
     obtain ⟨Al,nl,cl,hpl,hnl⟩ : ∃ A9 m9 c9,G4.wv 2 n (.int .i64 (d : Nat)) = .slice A9 m9 c9 ∧ m9 = (s1.ls 2 n d).length:=by
       obtain ⟨A9,m9,c9,h1,h2,-⟩:=M4.out.snap (i:=2) (a:=d) (by omega) hnK
       exact ⟨A9,m9,c9,h1,h2⟩
     have hnlb : nl ≤ 1024:=by rw [hnl];exact HL2.out
     have OWN : Hid (V4.ownsRow w0.heap.size 3 1 (.slice Al nl cl) nl ((ofNats (s1.ls 2 n d)).map (Value.int .i64))):=Lib.hid (by have h9:=M4.out.hw 2 n d (by omega) hnK;rw [hpl,← hnl] at h9;exact h9)
     have HGET : Hid (∀ w9,Kept [] V4 w9 → Calls Tryz.prog 82 #[.agg #[.slice (some ⟨K.tr 2,0,none⟩) K.n1 K.n1],.int .i64 n,.int .i64 (d : Nat)] w9 fun e w' => e = .returned (.slice Al nl cl) ∧ Below w9.heap.size w9 w'):=Lib.hid (fun w9 hk9 => by
       have h9:=getl_any (K.tr 2) K.n1 K.n1 n d (G4.m 2) (G4.c 2) (G4.wv 2) w9 ((M4.out.kept hk9).tw 2 (by omega)) hnK (by omega)
       rw [hpl] at h9
       exact h9)
     have Bs:=M4.out.box
     unfold sbox at Bs
     have ⟨LB,CB,FB⟩:=Bs
     obtain ⟨X,hX⟩ : ∃ X,X = K.tr 2 :: ((G4.m 2 n).toList ++ (Value.slice Al nl cl).ownBlock.toList):=⟨_,rfl⟩
     have hOL : OwnL G4 2 n d (Value.slice Al nl cl).ownBlock.toList:=fun y hy => ⟨by omega,by rw [hpl];simpa using hy⟩
     have xb : b ∉ X:=by rw [hX];exact M4.out.nXt (by omega) hnK hOL M4.out.btag (by unfold rowT;(repeat' split) <;> decide) (by decide)
     have hXo : ∀ y ∈ (Value.slice Al nl cl).ownBlock.toList,y ∈ X:=fun y hy => by rw [hX];exact List.mem_cons_of_mem _ (List.mem_append.2 (.inr hy))
     have hXp : ∀ y ∈ K.tr 2 :: (G4.m 2 n).toList,y ∈ X:=fun y hy => by
       rw [hX]
       rcases List.mem_cons.1 hy with h1 | h1
       · exact List.mem_cons.2 (.inl h1)
       · exact List.mem_cons_of_mem _ (List.mem_append.2 (.inl h1))
     have HXo:=Lib.hid hXo
     have HXp:=Lib.hid hXp
     have HPL:=Lib.hid hpl
     have HNL:=Lib.hid hnl
     have hbase : w0.heap.size ≤ V4.heap.size:=M4.out.low.size
     have HAP : Hid ((ofNats (s1.ls 2 n d)).map (Value.int .i64) ++ [.int .i64 (a : Nat)] = (ofNats (s1.ls 2 n d ++ [a])).map (Value.int .i64)):=Lib.hid (by simp [ofNats])
     have hcn : G4.c 2 n < maxLen:=by
       have h1:=M4.out.cb 2 n (by omega) hnK
       have h2:=HK2.out 2
       unfold maxLen
       omega
     have hlb:=LB
     clear hX hOL hpl hnl hXo hXp
     go_cut [65] (fun s9 wx => s9 = .tuple #[] ∧ ∃ O9 G9,Mem p K w0 b O9 G9 wx (s1.addL 2 n d a) ∧ Fy K O4 O9 G4 G9 s1 (s1.addL 2 n d a) V4 wx)
     case first =>
       go_region_held3 (fun w' => SXb X b V4 w') (first | (with_reducible assumption) | (exact SXb.of (keptNil (by (exact kpt0))) hlb xb)) (first
         | (go_at_call 82;refine (HGET.out _ (by (exact kpt0))).mono ?_;rintro e w5 ⟨rfl,hb5⟩;have hk5 : Kept [] V4 w5:=Kept.call (by (exact kpt0)) hb5;have hs5 : SXb X b V4 w5:=SXb.of (keptNil hk5) hlb xb)
         | (refine step_append_far _ rfl (.tmp 61) (.tmp 63) 30 rfl w0.heap.size 3 i1 (.int .i64 0) 1 8 Tryz.underlying30 hi1 hz3 hz4 hz5 rfl (by decide) (.slice Al nl cl) nl _ rfl (own_kept2 (X:=[]) OWN.out (by (exact kpt0)) (by simp)) _ 1 1 [.int .i64 (a : Nat)] rfl (by (repeat' first | (with_reducible refine Rd.drew ?_) | (with_reducible refine Rd.later ?_ hb5) | ((with_reducible refine Rd.new1 _ _ _ _ ?_);simp;done) | (with_reducible refine Rd.alloc ?_ _))) (by intro u hu;simp at hu;subst hu;rfl) (nl + 1) rfl _ HAP.out (by unfold maxLen;omega) (by omega) (by have:=hk5.size;first | omega | (simp;omega)) ?_;intro A6 c6 w6 hown6 hk6 hfar6;have HMc:=Lib.hid (M4.out.at_ hk6 (by (exact kpt0)));have hkc:=keptAt hk6 (V:=V4) (by (exact kpt0));have hk6V : Kept (Value.slice Al nl cl).ownBlock.toList V4 w6:=(keptNil hkc).next hk6 (fun y hy => Or.inl hy);have hs6 : SXb X b V4 w6:=SXb.of (keptWide hk6V HXo.out) hlb xb;have HO6:=Lib.hid hown6;have HK6:=Lib.hid hk6;have HF6:=Lib.hid hfar6;have HKC:=Lib.hid hkc;have HKV:=Lib.hid hk6V;clear hown6 hk6 hfar6 hkc hk6V)
         | (go_at_call 133;refine (putl_any (K.tr 2) K.n1 K.n1 n d (G4.m 2) (G4.c 2) (G4.wv 2) A6 (nl + 1) c6 _ (HMc.out.tw1 (by omega) hnK (by rw [HPL.out];exact HK6.out)) hnK (by omega) hcn).mono ?_;intro e w7 hput;have hput2:=hput;obtain ⟨m7,-,-,hk7,-,-⟩:=hput2;have hs7 : SXb X b V4 w7:=SXb.of ((keptWide HKV.out HXo.out).next hk7 (fun y hy => Or.inl (HXp.out y hy))) hlb xb;obtain ⟨O7,G7,rfl,M7,F7⟩:=HMc.out.put_list (by omega) hnK (by rw [List.length_append,← HNL.out];rfl) (by rw [HPL.out];exact HK6.out) HO6.out (by rw [HPL.out];exact HF6.out) hput;have F7':=(Fy.kept K O4 G4 s1 HKC.out).trans F7;clear hput))
       all_goals
         (try go_wp2_with fail)
         go_meet
         exact ⟨rfl,O7,G7,M7,F7'⟩
     case rest =>
     obtain ⟨rfl,O5,G5,M5',F5⟩:=hcut
     have M5:=Lib.hid M5'
     clear CB FB hlb LB xb hbase hnlb hcn M5'
     obtain ⟨s2,hs2⟩ : ∃ s2,s2 = s1.addL 2 n d a:=⟨_,rfl⟩
     have HK3 : Hid (∀ i,s2.k i ≤ 1000002):=fun i => by
       have h1:=HK2.out i
       rw [hs2]
       show bump s1.k 2 i ≤ _
       unfold bump
       split <;> omega
     have HS2:=Lib.hid hs2
     clear hs2
     obtain ⟨V5,hV5⟩ : ∃ V,V = wc:=⟨_,rfl⟩
     subst hV5
     rw [← HS2.out] at M5 F5
     have C15 : Hid (SafeB O5 V5 b1):=C14.out.fx F5.fx
     have C35 : Hid (SafeB O5 V5 b3):=C34.out.fx F5.fx
     have D15:=C14.out.blk F5.fx D14
     have D35:=C34.out.blk F5.fx D34
     have FY5:=Lib.hid (FY4.out.trans F5)
     go_upto_region 8 with fail
     have Bt:=M5.out.box
     unfold sbox at Bt
     have ⟨LT,CT,FT⟩:=Bt
     have ⟨L1t,C1t,F1t⟩:=D15
     have ⟨L3t,C3t,F3t⟩:=D35
     have hct : G5.c 0 n < maxLen:=by
       have h1:=M5.out.cb 0 n (by omega) hnK
       have h2:=HK3.out 0
       unfold maxLen
       omega
     have HPUT : Hid (Calls Tryz.prog 135 #[.agg #[.slice (some ⟨K.tr 0,0,none⟩) K.n1 K.n1],.int .i64 n,.agg #[.int .i64 (a : Int),.int .i64 (d : Int)],.agg #[.int .i64 z0,.int .i64 z1,.int .i64 z2]] V5.drew (PutT Tryz.prog 101 84 (.agg #[.int .i64 0,.int .i64 0,.int .i64 0]) V5.drew (K.tr 0) K.n1 (G5.m 0) (G5.c 0) G5.jv n (.agg #[.int .i64 (a : Int),.int .i64 (d : Int)]) (.agg #[.int .i64 z0,.int .i64 z1,.int .i64 z2]))):=putx_any (K.tr 0) K.n1 K.n1 n a d (G5.m 0) (G5.c 0) G5.jv z0 z1 z2 _ (M5.out.kept ((Kept.refl _ _).drew)).tj hnK (by omega) (by omega) hct (newD HNE.out HZ.out)
     have HPJ : Hid (∀ e w8,PutT Tryz.prog 101 84 (.agg #[.int .i64 0,.int .i64 0,.int .i64 0]) V5.drew (K.tr 0) K.n1 (G5.m 0) (G5.c 0) G5.jv n (.agg #[.int .i64 (a : Int),.int .i64 (d : Int)]) (.agg #[.int .i64 z0,.int .i64 z1,.int .i64 z2]) e w8 → ∃ O' G',e = .returned (.tuple #[]) ∧ Mem p K w0 b O' G' w8 (s2.setT n a d (meet (s.T n a d) y)) ∧ Fy K O5 O' G5 G' s2 (s2.setT n a d (meet (s.T n a d) y)) V5.drew w8):=fun e w8 hput => (M5.out.kept ((Kept.refl _ _).drew)).put_jump (y:=meet (s.T n a d) y) hnK (by rw [HZ.out];exact hput)
     refine wp_region_E 7 (fun w' => SXt [] b b1 b3 V5 w') (by kernel_rfl) (by (first | (with_reducible assumption) | exact SXt.of (Kept.refl _ _).drew LT L1t L3t (by simp) (by simp) (by simp))) (fun hHeld => ?_)
     refine WE_tk 0 ?_
     refine WE_tk 1 ?_
     refine WE_tk 2 ?_
     refine WE_tk 3 ?_
     refine WE_tk 4 ?_
     refine WE_tk 5 ?_
     refine WE_tk 6 ?_
     refine WE_last rfl (by kernel_rfl) (fun K hK => ?_)
     go_simp
     (go_at_call 135;refine HPUT.out.mono ?_;intro e w8 hput;obtain ⟨O8,G8,rfl,M8',F8⟩:=HPJ.out e w8 hput)
     (try go_wp2_with fail)
     refine hK.out _ _ ?_
     clear hK K
     have M8:=Lib.hid M8'
     have F08:=(FY5.out.trans (Fy.kept K O5 G5 s2 (Kept.refl _ V5).drew)).trans F8
     have ⟨L1u,C1u,F1u⟩:=(C15.out.fx (Fx.same (Kept.refl _ V5).drew)).blk F8.fx ((Kept.refl [] V5).drew.blk (by simp) D15)
     obtain ⟨s3,hs3⟩ : ∃ s3,s3 = s2.setT n a d (meet (s.T n a d) y):=⟨_,rfl⟩
     rw [← hs3] at M8 F08
     have HPQ : Hid ((∀ x,x ∈ s3.q ↔ s3.pd x ≠ []) ∧ s3.q.Nodup ∧ s3.k 4 ≤ 1000000 ∧ ∀ x ∈ s3.q,x < K.n1):=by
       show _ ∧ _
       rw [hs3]
       rw [HS2.out,HS1.out]
       exact ⟨HPQ0.out.1,HPQ0.out.2.1,HKB.out 4,HPQ0.out.2.2⟩
     have HEQ : Hid (s' = (s3.setQ (if s3.pd n = [] then s3.q ++ [n] else s3.q)).setP n (s3.pd n ++ [(a,d)])):=by
       show _ = _
       rw [HS.out,hs3]
       rw [HS2.out,HS1.out,inc_new HNE.out HT0.out _ rfl]
       rfl
     clear hput M8' CT FT C1t F1t C3t F3t hs3
     go_wp2_with (go_at_call 136;refine (push_any _ n a d M8.out hnK hN2 HPQ.out.2.1 HPQ.out.1 HPQ.out.2.2.2 HPQ.out.2.2.1).mono ?_;rintro e w9 ⟨O9,G9,rfl,M9,F9⟩)
     go_end0
     have F9':=F08.trans F9
     rw [← HEQ.out] at F9'
     exact ⟨O9,G9,rfl,M9.eq HEQ.out.symm,F9'⟩
   · have HT0 : Hid (s.T n a d ≠ top):=fun h => htop (HTOP.out.1 h)
     have htb : (x0 == 0) = false:=by simpa using htop
     clear htop
     go_upto_region 8 with fail
     have Bt:=M3.out.box
     unfold sbox at Bt
     have ⟨LT,CT,FT⟩:=Bt
     have ⟨L1t,C1t,F1t⟩:=BC1
     have ⟨L3t,C3t,F3t⟩:=BC3
     have hct : G.c 0 n < maxLen:=by
       have h1:=M3.out.cb 0 n (by omega) hnK
       have h2:=HK1.out 0
       unfold maxLen
       omega
     have HPUT : Hid (Calls Tryz.prog 135 #[.agg #[.slice (some ⟨K.tr 0,0,none⟩) K.n1 K.n1],.int .i64 n,.agg #[.int .i64 (a : Int),.int .i64 (d : Int)],.agg #[.int .i64 z0,.int .i64 z1,.int .i64 z2]] V3.drew (PutT Tryz.prog 101 84 (.agg #[.int .i64 0,.int .i64 0,.int .i64 0]) V3.drew (K.tr 0) K.n1 (G.m 0) (G.c 0) G.jv n (.agg #[.int .i64 (a : Int),.int .i64 (d : Int)]) (.agg #[.int .i64 z0,.int .i64 z1,.int .i64 z2]))):=putx_any (K.tr 0) K.n1 K.n1 n a d (G.m 0) (G.c 0) G.jv z0 z1 z2 _ (M3.out.kept ((Kept.refl _ _).drew)).tj hnK (by omega) (by omega) hct (newD HNE.out HZ.out)
     have HPJ : Hid (∀ e w8,PutT Tryz.prog 101 84 (.agg #[.int .i64 0,.int .i64 0,.int .i64 0]) V3.drew (K.tr 0) K.n1 (G.m 0) (G.c 0) G.jv n (.agg #[.int .i64 (a : Int),.int .i64 (d : Int)]) (.agg #[.int .i64 z0,.int .i64 z1,.int .i64 z2]) e w8 → ∃ O' G',e = .returned (.tuple #[]) ∧ Mem p K w0 b O' G' w8 (s.setT n a d (meet (s.T n a d) y)) ∧ Fy K O O' G G' s (s.setT n a d (meet (s.T n a d) y)) V3.drew w8):=fun e w8 hput => (M3.out.kept ((Kept.refl _ _).drew)).put_jump (y:=meet (s.T n a d) y) hnK (by rw [HZ.out];exact hput)
     refine wp_region_E 7 (fun w' => SXt [] b b1 b3 V3 w') (by kernel_rfl) (by (first | (with_reducible assumption) | exact SXt.of (Kept.refl _ _).drew LT L1t L3t (by simp) (by simp) (by simp))) (fun hHeld => ?_)
     refine WE_tk 0 ?_
     refine WE_tk 1 ?_
     refine WE_tk 2 ?_
     refine WE_tk 3 ?_
     refine WE_tk 4 ?_
     refine WE_tk 5 ?_
     refine WE_tk 6 ?_
     refine WE_last rfl (by kernel_rfl) (fun K hK => ?_)
     go_simp
     (go_at_call 135;refine HPUT.out.mono ?_;intro e w8 hput;obtain ⟨O8,G8,rfl,M8',F8⟩:=HPJ.out e w8 hput)
     (try go_wp2_with fail)
     refine hK.out _ _ ?_
     clear hK K
     have M8:=Lib.hid M8'
     have F08:=(FY0.out.trans (Fy.kept K O G s (Kept.refl _ V3).drew)).trans F8
     have ⟨L1u,C1u,F1u⟩:=(SC1.out.fx (Fx.same (Kept.refl _ V3).drew)).blk F8.fx ((Kept.refl [] V3).drew.blk (by simp) BC1)
     obtain ⟨s3,hs3⟩ : ∃ s3,s3 = s.setT n a d (meet (s.T n a d) y):=⟨_,rfl⟩
     rw [← hs3] at M8 F08
     have HPQ : Hid ((∀ x,x ∈ s3.q ↔ s3.pd x ≠ []) ∧ s3.q.Nodup ∧ s3.k 4 ≤ 1000000 ∧ ∀ x ∈ s3.q,x < K.n1):=by
       show _ ∧ _
       rw [hs3]

       exact ⟨HPQ0.out.1,HPQ0.out.2.1,HKB.out 4,HPQ0.out.2.2⟩
     have HEQ : Hid (s' = (s3.setQ (if s3.pd n = [] then s3.q ++ [n] else s3.q)).setP n (s3.pd n ++ [(a,d)])):=by
       show _ = _
       rw [HS.out,hs3]
       rw [inc_old HNE.out HT0.out _ rfl]
       rfl
     clear hput M8' CT FT C1t F1t C3t F3t hs3
     go_wp2_with (go_at_call 136;refine (push_any _ n a d M8.out hnK hN2 HPQ.out.2.1 HPQ.out.1 HPQ.out.2.2.2 HPQ.out.2.2.1).mono ?_;rintro e w9 ⟨O9,G9,rfl,M9,F9⟩)
     go_end0
     have F9':=F08.trans F9
     rw [← HEQ.out] at F9'
     exact ⟨O9,G9,rfl,M9.eq HEQ.out.symm,F9'⟩
end Go.Proofs.YtincpmdldpakkaaGreatDoor
