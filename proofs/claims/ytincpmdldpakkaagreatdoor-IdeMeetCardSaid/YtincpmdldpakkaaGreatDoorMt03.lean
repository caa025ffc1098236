/- Texts: Bb Sp Sa Sb Sc Sd. -/
import Derived.Test.YtincpmdldpakkaaGreatDoorRows
import Derived.Test.YtincpmdldpakkaaGreatDoorMt01
import Derived.Test.YtincpmdldpakkaaGreatDoorMt02
namespace Go.Proofs.YtincpmdldpakkaaGreatDoor
open Go.RowKit Go.Df
attribute [local go_sem ↓] Go.wp_at_zero Go.wp_at_succ
theorem ret_x {a b c : Int} {x : Xf.X} (h : ⟨a,b,c⟩ = x) : Ending.returned (.agg #[.int .i64 a,.int .i64 b,.int .i64 c]) = .returned (.agg #[.int .i64 x.k,.int .i64 x.b,.int .i64 x.c]):=by subst h;rfl
theorem ret_v {a b : Int} {x : Xf.V} (h : ⟨a,b⟩ = x) : Ending.returned (.agg #[.int .i64 a,.int .i64 b]) = .returned (.agg #[.int .i64 x.k,.int .i64 x.n]):=by subst h;rfl
set_option maxHeartbeats 400000 in
theorem meetV_any (k n k' n' : Int) (w : World) :
   Calls Tryz.prog 36 #[.agg #[.int .i64 k,.int .i64 n],.agg #[.int .i64 k',.int .i64 n']] w fun e w' => e = .returned (.agg #[.int .i64 (Xf.meetV ⟨k,n⟩ ⟨k',n'⟩).k,.int .i64 (Xf.meetV ⟨k,n⟩ ⟨k',n'⟩).n]) ∧ Below w.heap.size w w':=by
 go_enter Tryz.func36,Tryz.ntmps36
 go_wp2
 all_goals (go_returns;refine ⟨ret_v ?_,by go_grown⟩;simp_all [Xf.meetV])
set_option maxHeartbeats 400000 in
theorem rmeetV_any (k n k' n' : Int) (w : World) :
   Calls Tryz.prog 92 #[.agg #[.int .i64 k,.int .i64 n],.agg #[.int .i64 k',.int .i64 n']] w fun e w' => e = .returned (.agg #[.int .i64 (Xf.rmeetV ⟨k,n⟩ ⟨k',n'⟩).k,.int .i64 (Xf.rmeetV ⟨k,n⟩ ⟨k',n'⟩).n]) ∧ Below w.heap.size w w':=by
 go_enter Tryz.func92,Tryz.ntmps92
 go_wp2
 all_goals (go_returns;refine ⟨ret_v ?_,by go_grown⟩;simp_all [Xf.rmeetV])
set_option maxHeartbeats 400000 in
theorem sum_any (k n m : Int) (w : World) :
   Calls Tryz.prog 87 #[.agg #[.int .i64 k,.int .i64 n],.int .i64 m] w fun e w' => e = .returned (.agg #[.int .i64 (Xf.sum ⟨k,n⟩ m).k,.int .i64 (Xf.sum ⟨k,n⟩ m).n]) ∧ Below w.heap.size w w':=by
 go_enter Tryz.func87,Tryz.ntmps87
 go_wp2
 all_goals (go_returns;refine ⟨ret_v ?_,by go_grown⟩;simp_all [Xf.sum])
set_option maxHeartbeats 400000 in
theorem rsum_any (k n m : Int) (w : World) :
   Calls Tryz.prog 177 #[.agg #[.int .i64 k,.int .i64 n],.int .i64 m] w fun e w' => e = .returned (.agg #[.int .i64 (Xf.sum ⟨k,n⟩ m).k,.int .i64 (Xf.sum ⟨k,n⟩ m).n]) ∧ Below w.heap.size w w':=by
 go_enter Tryz.func177,Tryz.ntmps177
 go_wp2
 all_goals (go_returns;refine ⟨ret_v ?_,by go_grown⟩;simp_all [Xf.sum])
set_option maxHeartbeats 400000 in
theorem const_any (n : Int) (w : World) :
   Calls Tryz.prog 86 #[.int .i64 n] w fun e w' => e = .returned (.agg #[.int .i64 1,.int .i64 n]) ∧ Below w.heap.size w w':=by
 go_enter Tryz.func86,Tryz.ntmps86
 go_wp2
 all_goals (go_returns;exact ⟨rfl,by go_grown⟩)
set_option maxHeartbeats 400000 in
theorem rconst_any (n : Int) (w : World) :
   Calls Tryz.prog 176 #[.int .i64 n] w fun e w' => e = .returned (.agg #[.int .i64 1,.int .i64 n]) ∧ Below w.heap.size w w':=by
 go_enter Tryz.func176,Tryz.ntmps176
 go_wp2
 all_goals (go_returns;exact ⟨rfl,by go_grown⟩)
set_option maxHeartbeats 400000 in
theorem apply3_any (b c k' n : Int) (w : World) (hk : (k' == 0) = false) :
   Calls Tryz.prog 34 #[.agg #[.int .i64 3,.int .i64 b,.int .i64 c],.agg #[.int .i64 k',.int .i64 n]] w fun e w' => e = .returned (.agg #[.int .i64 (Xf.apply ⟨3,b,c⟩ ⟨k',n⟩).k,.int .i64 (Xf.apply ⟨3,b,c⟩ ⟨k',n⟩).n]) ∧ Below w.heap.size w w':=by
 go_enter Tryz.func34,Tryz.ntmps34
 go_wp2_with fail
 refine wp_named (fun W => ∃ b0 b1 b2,w.heap.size = b0 ∧ w.heap.size + 1 = b1 ∧ w.heap.size + 1 + 1 = b2 ∧ Blk W b0 [.int .i64 3,.int .i64 b,.int .i64 c] ∧ Blk W b1 [.int .i64 k',.int .i64 n] ∧ Blk W b2 [.int .i64 0,.int .i64 0] ∧ Below w.heap.size w W) ⟨_,_,_,rfl,rfl,rfl,?_,?_,?_,?_⟩ ?_
 · exact ((Blk.new _ _ _ _ rfl).alloc _).alloc _
 · exact (Blk.new _ _ _ _ (by simp)).alloc _
 · exact (Blk.new _ _ _ _ (by simp))
 · go_grown
 rintro W ⟨b0,b1,b2,e0,e1,e2,B0,B1,B2,hB⟩
 rw [e2,e1,e0]
 have H : w.heap.size ≤ b2:=by omega
 have n02 : b0 ≠ b2:=by omega
 have n12 : b1 ≠ b2:=by omega
 clear e0 e1 e2
 have ⟨L0,C0,F0⟩:=B0
 have ⟨L1,C1,F1⟩:=B1
 go_region_held3 (fun w' => SX1 W b2 2 w') (first | exact SX1.init B2 | exact SX1.call (by assumption) (by assumption) | (repeat' first | assumption | refine SX1.set ?_ _ _))
   (first | (go_at_call 87;refine (sum_any _ _ _ _).mono ?_;rintro e w1 ⟨rfl,hb1⟩) | (go_at_call 86;refine (const_any _ _).mono ?_;rintro e w2 ⟨rfl,hb2⟩) | (go_at_call 36;refine (meetV_any _ _ _ _ _).mono ?_;rintro e w3 ⟨rfl,hb3⟩))
 refine SX1.go2 (F:=Exit.then _ _ _ _) (by assumption) ?_
 rintro Wf kf ⟨L2,C2,F2⟩
 have hBf:=kf.below hB hB.size (by simpa using H)
 go_wp2_with fail
 refine bodyPost_ret (by simp [results,Tryz.results34,go_sem,C2];rfl) rfl ?_
 refine ⟨ret_v ?_,hBf⟩
 have hk' : k' ≠ 0:=by simpa using hk
 simp [Xf.apply,hk']
set_option maxHeartbeats 400000 in
theorem apply_any (k b c k' n : Int) (w : World) :
   Calls Tryz.prog 34 #[.agg #[.int .i64 k,.int .i64 b,.int .i64 c],.agg #[.int .i64 k',.int .i64 n]] w fun e w' => e = .returned (.agg #[.int .i64 (Xf.apply ⟨k,b,c⟩ ⟨k',n⟩).k,.int .i64 (Xf.apply ⟨k,b,c⟩ ⟨k',n⟩).n]) ∧ Below w.heap.size w w':=by
 by_cases h0 : (k' == 0) = true
 · go_enter Tryz.func34,Tryz.ntmps34
   go_wp2_with fail
   go_returns
   exact ⟨ret_v (by simp_all [Xf.apply]),by go_grown⟩
 · replace h0 : (k' == 0) = false:=by simpa using h0
   by_cases h3 : k = 3
   · subst h3;exact apply3_any b c k' n w h0
   · replace h3 : (k == 3) = false:=by simpa using h3
     go_enter Tryz.func34,Tryz.ntmps34
     go_wp2
     all_goals
       go_returns
       exact ⟨ret_v (by simp_all [Xf.apply,Xf.sum]),by go_grown⟩
set_option maxHeartbeats 400000 in
theorem rapply3_any (b c k' n : Int) (w : World) (hk : (k' == 0) = false) :
   Calls Tryz.prog 119 #[.agg #[.int .i64 3,.int .i64 b,.int .i64 c],.agg #[.int .i64 k',.int .i64 n]] w fun e w' => e = .returned (.agg #[.int .i64 (Xf.rapply ⟨3,b,c⟩ ⟨k',n⟩).k,.int .i64 (Xf.rapply ⟨3,b,c⟩ ⟨k',n⟩).n]) ∧ Below w.heap.size w w':=by
 go_enter Tryz.func119,Tryz.ntmps119
 go_wp2_with fail
 refine wp_named (fun W => ∃ b0 b1 b2,w.heap.size = b0 ∧ w.heap.size + 1 = b1 ∧ w.heap.size + 1 + 1 = b2 ∧ Blk W b0 [.int .i64 3,.int .i64 b,.int .i64 c] ∧ Blk W b1 [.int .i64 k',.int .i64 n] ∧ Blk W b2 [.int .i64 0,.int .i64 0] ∧ Below w.heap.size w W) ⟨_,_,_,rfl,rfl,rfl,?_,?_,?_,?_⟩ ?_
 · exact ((Blk.new _ _ _ _ rfl).alloc _).alloc _
 · exact (Blk.new _ _ _ _ (by simp)).alloc _
 · exact (Blk.new _ _ _ _ (by simp))
 · go_grown
 rintro W ⟨b0,b1,b2,e0,e1,e2,B0,B1,B2,hB⟩
 rw [e2,e1,e0]
 have H : w.heap.size ≤ b2:=by omega
 have n02 : b0 ≠ b2:=by omega
 have n12 : b1 ≠ b2:=by omega
 clear e0 e1 e2
 have ⟨L0,C0,F0⟩:=B0
 have ⟨L1,C1,F1⟩:=B1
 go_region_held3 (fun w' => SX1 W b2 2 w') (first | exact SX1.init B2 | exact SX1.call (by assumption) (by assumption) | (repeat' first | assumption | refine SX1.set ?_ _ _))
   (first | (go_at_call 177;refine (rsum_any _ _ _ _).mono ?_;rintro e w1 ⟨rfl,hb1⟩) | (go_at_call 176;refine (rconst_any _ _).mono ?_;rintro e w2 ⟨rfl,hb2⟩) | (go_at_call 92;refine (rmeetV_any _ _ _ _ _).mono ?_;rintro e w3 ⟨rfl,hb3⟩))
 refine SX1.go2 (F:=Exit.then _ _ _ _) (by assumption) ?_
 rintro Wf kf ⟨L2,C2,F2⟩
 have hBf:=kf.below hB hB.size (by simpa using H)
 go_wp2_with fail
 refine bodyPost_ret (by simp [results,Tryz.results119,go_sem,C2];rfl) rfl ?_
 refine ⟨ret_v ?_,hBf⟩
 have hk' : k' ≠ 0:=by simpa using hk
 simp [Xf.rapply,hk']
set_option maxHeartbeats 400000 in
theorem rapply_any (k b c k' n : Int) (w : World) :
   Calls Tryz.prog 119 #[.agg #[.int .i64 k,.int .i64 b,.int .i64 c],.agg #[.int .i64 k',.int .i64 n]] w fun e w' => e = .returned (.agg #[.int .i64 (Xf.rapply ⟨k,b,c⟩ ⟨k',n⟩).k,.int .i64 (Xf.rapply ⟨k,b,c⟩ ⟨k',n⟩).n]) ∧ Below w.heap.size w w':=by
 by_cases h0 : (k' == 0) = true
 · go_enter Tryz.func119,Tryz.ntmps119
   go_wp2_with fail
   go_returns
   exact ⟨ret_v (by simp_all [Xf.rapply]),by go_grown⟩
 · replace h0 : (k' == 0) = false:=by simpa using h0
   by_cases h3 : k = 3
   · subst h3;exact rapply3_any b c k' n w h0
   · replace h3 : (k == 3) = false:=by simpa using h3
     go_enter Tryz.func119,Tryz.ntmps119
     go_wp2
     all_goals
       go_returns
       exact ⟨ret_v (by simp_all [Xf.rapply,Xf.sum]),by go_grown⟩
end Go.Proofs.YtincpmdldpakkaaGreatDoor
namespace Go.Df.Sp
structure Nd where
 f : Int
 k : Int
 i : Int
deriving DecidableEq
structure Ed where
 a : Int
 b : Int
 k : Int
 c : Int
deriving DecidableEq
def Nd.cs (n : Nd) : List Value:=[.int .i64 n.f,.int .i64 n.k,.int .i64 n.i]
def Ed.cs (e : Ed) : List Value:=[.int .i64 e.a,.int .i64 e.b,.int .i64 e.k,.int .i64 e.c]
def cmpI (x y : Int) : Int:=if x < y then -1 else if y < x then 1 else 0
def orL : List Int → Int
 | [] => 0
 | x :: l => if x = 0 then orL l else x
def lessN (a b : Nd) : Bool:=if a.f ≠ b.f then decide (a.f < b.f) else if a.k ≠ b.k then decide (a.k < b.k) else decide (a.i < b.i)
def lessE (a b : Ed) : Bool:=if a.a ≠ b.a then decide (a.a < b.a) else if a.b ≠ b.b then decide (a.b < b.b) else if a.k ≠ b.k then decide (a.k < b.k) else decide (a.c < b.c)
def ordN (a b : Nd) : Int:=orL [cmpI a.f b.f,cmpI a.k b.k,cmpI a.i b.i]
def ordE (a b : Ed) : Int:=orL [cmpI a.a b.a,cmpI a.b b.b,cmpI a.k b.k,cmpI a.c b.c]
theorem or_cmp (x y : Int) (l : List Int) : decide (0 ≤ orL (cmpI x y :: l)) = if x ≠ y then !decide (x < y) else decide (0 ≤ orL l):=by
 rw [orL]
 unfold cmpI
 by_cases h1 : x < y
 · simp [h1,show x ≠ y by omega]
 · by_cases h2 : y < x
   · simp [h1,h2,show x ≠ y by omega]
   · simp [show x = y by omega]
theorem or_last (x y : Int) : decide (0 ≤ orL [cmpI x y]) = !decide (x < y):=by
 rw [or_cmp]
 split
 · rfl
 · rename_i h
   have : ¬ x < y:=by omega
   simp [orL,this]
theorem ordN_ge (a b : Nd) : decide (0 ≤ ordN a b) = !lessN a b:=by
 unfold ordN lessN
 rw [or_cmp,or_cmp,or_last]
 split
 · rfl
 · split <;> rfl
theorem ordE_ge (a b : Ed) : decide (0 ≤ ordE a b) = !lessE a b:=by
 unfold ordE lessE
 rw [or_cmp,or_cmp,or_cmp,or_last]
 split
 · rfl
 · split
   · rfl
   · split <;> rfl
end Go.Df.Sp
namespace Go.Proofs.YtincpmdldpakkaaGreatDoor
open Go.RowKit Go.Df
attribute [local go_sem ↓] Go.wp_at_zero Go.wp_at_succ
theorem int_info : (Tryz.prog.info? 3).map (fun i => (i.zero,i.size,i.bytes)) = some (some (.int .i64 0),1,8):=by kernel_rfl
theorem isNaN_any (x : Int) (w : World) : Calls Tryz.prog 101 #[.int .i64 x] w fun e w' => e = .returned (.bool false) ∧ w = w':=by
 go_enter Tryz.func101,Tryz.ntmps101
 go_wp2
 go_ret
 exact ⟨ret_bool (by simp),rfl⟩
theorem compare_any (x y : Int) (w : World) : Calls Tryz.prog 55 #[.int .i64 x,.int .i64 y] w fun e w' => e = .returned (.int .i64 (Sp.cmpI x y)) ∧ w = w':=by
 go_enter Tryz.func55,Tryz.ntmps55
 go_wp2_with (go_at_call 101;refine (isNaN_any _ _).mono ?_;rintro e w' ⟨rfl,rfl⟩)
 all_goals (go_ret;refine ⟨ret_int ?_,rfl⟩;unfold Sp.cmpI;first | (rw [if_pos (by omega)]) | (rw [if_neg (by omega),if_pos (by omega)]) | (rw [if_neg (by omega),if_neg (by omega)]))
theorem Sp.or_at {l : List Int} {k : Nat} (h : ∀ j,j < k → gi l j = 0) (hk : k < l.length) (h0 : gi l k ≠ 0) : Sp.orL l = gi l k:=by
 induction l generalizing k with
 | nil => simp at hk
 | cons x l ih =>
   rw [Sp.orL]
   cases k with
   | zero => rw [if_neg (show ¬ x = 0 from h0)];rfl
   | succ k =>
     have h1 : x = 0:=h 0 (by omega)
     rw [if_pos h1]
     exact ih (fun j hj => h (j + 1) (by omega)) (by simpa using hk) h0
theorem Sp.or_none {l : List Int} (h : ∀ j,j < l.length → gi l j = 0) : Sp.orL l = 0:=by
 induction l with
 | nil => rfl
 | cons x l ih =>
   have h1 : x = 0:=h 0 (by simp)
   rw [Sp.orL,if_pos h1]
   exact ih (fun j hj => h (j + 1) (by simpa using hj))
set_option maxHeartbeats 400000 in
theorem or_any (A : Option Addr) (n c : Nat) (l : List Int) (w : World) (hl : Ints w A n l) (hp : 0 < n) (hn : n ≤ 1000) :
   Calls Tryz.prog 54 #[.slice A n c] w fun e w' => e = .returned (.int .i64 (Sp.orL l)) ∧ w = w':=by
 obtain ⟨b,o,rfl,hlt,hc⟩:=hl.at_ hp
 have HL:=Lib.hid hl.1
 have HC:=Lib.hid hc
 clear hc hl
 go_enter Tryz.func54,Tryz.ntmps54
 go_wp2
 go_loop [8] (fun i => ∃ k : Nat,k ≤ n ∧ i = .int .i64 k ∧ Hid (∀ j,j < k → gi l j = 0)) (fun i => n - (intOf i).toNat)
 case atStart => exact ⟨0,Nat.zero_le _,rfl,Lib.hid (fun j hj => absurd hj (by omega))⟩
 case round =>
   obtain ⟨k,hk,rfl,hj⟩:=hrel
   by_cases hlt2 : k < n
   · have hcell:=HC.out k hlt2
     by_cases h0 : gi l k = 0
     · have e1 : (gi l k != 0) = false:=by simp [h0]
       have H0:=Lib.hid h0
       clear h0
       go_wp2
       go_round
       case rel =>
         refine ⟨k + 1,by omega,by go_num,Lib.hid (fun j hj1 => ?_)⟩
         rcases Nat.lt_or_ge j k with h2 | h2
         · exact hj.out j h2
         · obtain rfl : j = k:=by omega
           exact H0.out
       case measure => simp [intOf];omega
     · have e1 : (gi l k != 0) = true:=by simp [h0]
       go_wp2
       go_ret
       exact ⟨ret_int (Sp.or_at hj.out (by rw [HL.out];exact hlt2) h0).symm,rfl⟩
   · go_wp2
     go_ret
     exact ⟨ret_int (Sp.or_none (fun j hj1 => hj.out j (by rw [HL.out] at hj1;omega))).symm,rfl⟩
theorem three_ints (w : World) (x y z : Int) (t : TypeId) (b : Nat) (hb : b = w.heap.size) : Ints (w.alloc (.cells #[.int .i64 x,.int .i64 y,.int .i64 z] t)) (some ⟨b,0,none⟩) 3 [x,y,z]:=by
 subst hb
 refine ⟨rfl,fun _ => ⟨_,_,rfl,by simp,fun i hi => ?_⟩⟩
 rw [World.cell?_alloc_new,Nat.zero_add]
 match i,hi with
 | 0,_ => rfl
 | 1,_ => rfl
 | 2,_ => rfl
theorem four_ints (w : World) (x y z u : Int) (t : TypeId) (b : Nat) (hb : b = w.heap.size) : Ints (w.alloc (.cells #[.int .i64 x,.int .i64 y,.int .i64 z,.int .i64 u] t)) (some ⟨b,0,none⟩) 4 [x,y,z,u]:=by
 subst hb
 refine ⟨rfl,fun _ => ⟨_,_,rfl,by simp,fun i hi => ?_⟩⟩
 rw [World.cell?_alloc_new,Nat.zero_add]
 match i,hi with
 | 0,_ => rfl
 | 1,_ => rfl
 | 2,_ => rfl
 | 3,_ => rfl
set_option maxHeartbeats 1000000 in
theorem orderNode_any (f k i f' k' i' : Int) (w : World) :
   Calls Tryz.prog 123 #[.agg #[.int .i64 f,.int .i64 k,.int .i64 i],.agg #[.int .i64 f',.int .i64 k',.int .i64 i']] w fun e w' => e = .returned (.int .i64 (Sp.ordN ⟨f,k,i⟩ ⟨f',k',i'⟩)) ∧ Below w.heap.size w w':=by
 go_enter Tryz.func123,Tryz.ntmps123
 go_upto_region 1 with fail
 refine wp_named (fun W => ∃ b0 b1,w.heap.size = b0 ∧ w.heap.size + 1 = b1 ∧ Blk W b0 [.int .i64 f,.int .i64 k,.int .i64 i] ∧ Blk W b1 [.int .i64 f',.int .i64 k',.int .i64 i'] ∧ Below w.heap.size w W) ⟨_,_,rfl,rfl,?_,?_,?_⟩ ?_
 · exact (Blk.new _ _ _ _ (by first | rfl | simp)).alloc _
 · exact kbn
 · go_grown
 rintro W ⟨b0,b1,e0,e1,B0,B1,hB⟩
 rw [e1,e0]
 have G0 : w.heap.size ≤ b0:=by omega
 have n01 : b0 ≠ b1:=by omega
 have G1 : w.heap.size ≤ b1:=by omega
 have n10 : b1 ≠ b0:=by omega
 clear e0 e1
 have ⟨L0,C0,F0⟩:=B0
 have ⟨L1,C1,F1⟩:=B1
 go_region_held3 (fun w' => SX0 W w') (exact kp0)
   (first | (go_at_call 55;refine (compare_any _ _ _).mono ?_;rintro e w1 ⟨rfl,rfl⟩) | (go_at_call 54;refine (or_any _ _ _ [Sp.cmpI f f',Sp.cmpI k k',Sp.cmpI i i'] _ (by first | exact three_ints _ _ _ _ _ _ (by first | rfl | simp) | exact Ints.drew (three_ints _ _ _ _ _ _ (by first | rfl | simp))) (by omega) (by omega)).mono ?_;rintro e w2 ⟨rfl,rfl⟩))
 all_goals
   go_wp2_with fail
   go_ret
   refine ⟨rfl,Kept.below (X:=[]) hB hB.size (by simp) ?_⟩
   (exact kpt0)
set_option maxHeartbeats 1000000 in
theorem orderEdge_any (a b k c a' b' k' c' : Int) (w : World) :
   Calls Tryz.prog 126 #[.agg #[.int .i64 a,.int .i64 b,.int .i64 k,.int .i64 c],.agg #[.int .i64 a',.int .i64 b',.int .i64 k',.int .i64 c']] w fun e w' => e = .returned (.int .i64 (Sp.ordE ⟨a,b,k,c⟩ ⟨a',b',k',c'⟩)) ∧ Below w.heap.size w w':=by
 go_enter Tryz.func126,Tryz.ntmps126
 go_upto_region 1 with fail
 refine wp_named (fun W => ∃ b0 b1,w.heap.size = b0 ∧ w.heap.size + 1 = b1 ∧ Blk W b0 [.int .i64 a,.int .i64 b,.int .i64 k,.int .i64 c] ∧ Blk W b1 [.int .i64 a',.int .i64 b',.int .i64 k',.int .i64 c'] ∧ Below w.heap.size w W) ⟨_,_,rfl,rfl,?_,?_,?_⟩ ?_
 · exact (Blk.new _ _ _ _ (by first | rfl | simp)).alloc _
 · exact kbn
 · go_grown
 rintro W ⟨b0,b1,e0,e1,B0,B1,hB⟩
 rw [e1,e0]
 have G0 : w.heap.size ≤ b0:=by omega
 have n01 : b0 ≠ b1:=by omega
 have G1 : w.heap.size ≤ b1:=by omega
 have n10 : b1 ≠ b0:=by omega
 clear e0 e1
 have ⟨L0,C0,F0⟩:=B0
 have ⟨L1,C1,F1⟩:=B1
 go_region_held3 (fun w' => SX0 W w') (exact kp0)
   (first | (go_at_call 55;refine (compare_any _ _ _).mono ?_;rintro e w1 ⟨rfl,rfl⟩) | (go_at_call 54;refine (or_any _ _ _ [Sp.cmpI a a',Sp.cmpI b b',Sp.cmpI k k',Sp.cmpI c c'] _ (by first | exact four_ints _ _ _ _ _ _ _ (by first | rfl | simp) | exact Ints.drew (four_ints _ _ _ _ _ _ _ (by first | rfl | simp))) (by omega) (by omega)).mono ?_;rintro e w2 ⟨rfl,rfl⟩))
 all_goals
   go_wp2_with fail
   go_ret
   refine ⟨rfl,Kept.below (X:=[]) hB hB.size (by simp) ?_⟩
   (exact kpt0)
set_option maxHeartbeats 1000000 in
theorem less_any (f k i f' k' i' : Int) (w : World) :
   Calls Tryz.prog 120 #[.agg #[.int .i64 f,.int .i64 k,.int .i64 i],.agg #[.int .i64 f',.int .i64 k',.int .i64 i']] w fun e w' => e = .returned (.bool (Sp.lessN ⟨f,k,i⟩ ⟨f',k',i'⟩)) ∧ Below w.heap.size w w':=by
 go_enter Tryz.func120,Tryz.ntmps120
 go_wp2
 all_goals (go_ret;refine ⟨ret_bool ?_,by go_grown⟩;unfold Sp.lessN;simp_all)
set_option maxHeartbeats 1000000 in
theorem lessEdge_any (a b k c a' b' k' c' : Int) (w : World) :
   Calls Tryz.prog 69 #[.agg #[.int .i64 a,.int .i64 b,.int .i64 k,.int .i64 c],.agg #[.int .i64 a',.int .i64 b',.int .i64 k',.int .i64 c']] w fun e w' => e = .returned (.bool (Sp.lessE ⟨a,b,k,c⟩ ⟨a',b',k',c'⟩)) ∧ Below w.heap.size w w':=by
 go_enter Tryz.func69,Tryz.ntmps69
 go_wp2
 all_goals (go_ret;refine ⟨ret_bool ?_,by go_grown⟩;unfold Sp.lessE;simp_all)
end Go.Proofs.YtincpmdldpakkaaGreatDoor
namespace Go.Df
open Go.RowKit Sp
def gn (ns : List Nd) (i : Nat) : Nd:=ns.getD i ⟨0,0,0⟩
def ge (es : List Ed) (i : Nat) : Ed:=es.getD i ⟨0,0,0,0⟩
theorem gn_lt {ns : List Nd} {i : Nat} (h : i < ns.length) : gn ns i = ns[i]:=by simp [gn,h]
theorem ge_lt {es : List Ed} {i : Nat} (h : i < es.length) : ge es i = es[i]:=by simp [ge,h]
def Nds (w : World) (A : Option Addr) (n : Nat) (ns : List Nd) : Prop :=
 ns.length = n ∧ (0 < n → ∃ b o,A = some ⟨b,o,none⟩ ∧ b < w.heap.size ∧ ∀ i,i < n → w.cell? ⟨b,o + i * 3,none⟩ = some (.int .i64 (gn ns i).f) ∧ w.cell? ⟨b,o + i * 3 + 1,none⟩ = some (.int .i64 (gn ns i).k) ∧ w.cell? ⟨b,o + i * 3 + 2,none⟩ = some (.int .i64 (gn ns i).i))
def Eds (w : World) (A : Option Addr) (n : Nat) (es : List Ed) : Prop :=
 es.length = n ∧ (0 < n → ∃ b o,A = some ⟨b,o,none⟩ ∧ b < w.heap.size ∧ ∀ i,i < n → w.cell? ⟨b,o + i * 4,none⟩ = some (.int .i64 (ge es i).a) ∧ w.cell? ⟨b,o + i * 4 + 1,none⟩ = some (.int .i64 (ge es i).b) ∧ w.cell? ⟨b,o + i * 4 + 2,none⟩ = some (.int .i64 (ge es i).k) ∧ w.cell? ⟨b,o + i * 4 + 3,none⟩ = some (.int .i64 (ge es i).c))
theorem Nds.later {w w' : World} {A : Option Addr} {n : Nat} {ns : List Nd} (h : Nds w A n ns) (hb : Below w.heap.size w w') : Nds w' A n ns :=
 ⟨h.1,fun hn => by
   obtain ⟨b,o,e,hl,hc⟩:=h.2 hn
   exact ⟨b,o,e,Nat.lt_of_lt_of_le hl hb.size,fun i hi => ⟨(hb.cell (p:=⟨b,_,none⟩) hl).trans (hc i hi).1,(hb.cell (p:=⟨b,_,none⟩) hl).trans (hc i hi).2.1,(hb.cell (p:=⟨b,_,none⟩) hl).trans (hc i hi).2.2⟩⟩⟩
theorem Eds.later {w w' : World} {A : Option Addr} {n : Nat} {es : List Ed} (h : Eds w A n es) (hb : Below w.heap.size w w') : Eds w' A n es :=
 ⟨h.1,fun hn => by
   obtain ⟨b,o,e,hl,hc⟩:=h.2 hn
   exact ⟨b,o,e,Nat.lt_of_lt_of_le hl hb.size,fun i hi => ⟨(hb.cell (p:=⟨b,_,none⟩) hl).trans (hc i hi).1,(hb.cell (p:=⟨b,_,none⟩) hl).trans (hc i hi).2.1,(hb.cell (p:=⟨b,_,none⟩) hl).trans (hc i hi).2.2.1,(hb.cell (p:=⟨b,_,none⟩) hl).trans (hc i hi).2.2.2⟩⟩⟩
theorem Kept.toBelow {w w' : World} (h : Kept [] w w') : Below w.heap.size w w':=⟨h.os,h.tape,h.output,h.size,fun k hk => h.block k hk (by simp)⟩
theorem Nds.kept {w w' : World} {A : Option Addr} {n : Nat} {ns : List Nd} (h : Nds w A n ns) (hk : Kept [] w w') : Nds w' A n ns:=h.later hk.toBelow
theorem Eds.kept {w w' : World} {A : Option Addr} {n : Nat} {es : List Ed} (h : Eds w A n es) (hk : Kept [] w w') : Eds w' A n es:=h.later hk.toBelow
structure Sup (w : World) (A1 : Option Addr) (n1 c1 : Nat) (A2 : Option Addr) (n2 c2 : Nat) (ns : List Nd) (es : List Ed) : Prop where
 nd : Nds w A1 n1 ns
 ed : Eds w A2 n2 es
 b1 : n1 ≤ c1 ∧ c1 ≤ 9223372036854775807
 b2 : n2 ≤ c2 ∧ c2 ≤ 9223372036854775807
namespace Sp
def kindAt (ns : List Nd) (f k : Int) : Int:=match ns.findIdx? (fun n => n.f == f && n.k == k) with | some i => (i : Int) | none => -1
theorem kind_hit {ns : List Nd} {f k : Int} {i : Nat} (h : ∀ j,j < i → ((gn ns j).f == f && (gn ns j).k == k) = false) (hi : i < ns.length) (e : ((gn ns i).f == f && (gn ns i).k == k) = true) : kindAt ns f k = i:=by
 unfold kindAt
 have : ns.findIdx? (fun n => n.f == f && n.k == k) = some i:=by
   rw [List.findIdx?_eq_some_iff_getElem]
   refine ⟨hi,by rw [gn_lt hi] at e;exact e,fun j hj => ?_⟩
   have:=h j hj
   rw [gn_lt (by omega)] at this
   simp [this]
 rw [this]
theorem kind_miss {ns : List Nd} {f k : Int} (h : ∀ j,j < ns.length → ((gn ns j).f == f && (gn ns j).k == k) = false) : kindAt ns f k = -1:=by
 unfold kindAt
 have : ns.findIdx? (fun n => n.f == f && n.k == k) = none:=by
   rw [List.findIdx?_eq_none_iff]
   intro x hx
   obtain ⟨j,hj,rfl⟩:=List.getElem_of_mem hx
   have:=h j hj
   rwa [gn_lt hj] at this
 rw [this]
end Sp
end Go.Df
namespace Go.Proofs.YtincpmdldpakkaaGreatDoor
open Go.RowKit Go.Df
attribute [local go_sem ↓] Go.wp_at_zero Go.wp_at_succ
set_option maxHeartbeats 1000000 in
theorem kind_any (A1 A2 : Option Addr) (n1 c1 n2 c2 : Nat) (mn f k : Int) (ns : List Sp.Nd) (w : World) (hn : Nds w A1 n1 ns) (hs : n1 ≤ 1000000) :
   Calls Tryz.prog 175 #[.agg #[.slice A1 n1 c1,.slice A2 n2 c2,.int .i64 mn],.int .i64 f,.int .i64 k] w fun e w' => e = .returned (.int .i64 (Sp.kindAt ns f k)) ∧ Below w.heap.size w w':=by
 have HN:=Lib.hid hn
 have HL:=Lib.hid hn.1
 clear hn
 go_enter Tryz.func175,Tryz.ntmps175
 go_upto_region 1 with fail
 refine wp_named (fun W => ∃ b0,w.heap.size = b0 ∧ Blk W b0 [.slice A1 n1 c1,.slice A2 n2 c2,.int .i64 mn] ∧ Below w.heap.size w W) ⟨_,rfl,?_,?_⟩ ?_
 · exact kbn
 · go_grown
 rintro W ⟨b0,e0,B0,hB⟩
 rw [e0]
 have G0 : w.heap.size ≤ b0:=by omega
 clear e0
 have ⟨L0,C0,F0⟩:=B0
 go_wp2_with fail
 go_loop [7] (fun i => ∃ j : Nat,j ≤ n1 ∧ i = .int .i64 j ∧ Hid (∀ x,x < j → ((gn ns x).f == f && (gn ns x).k == k) = false)) (fun i => n1 - (intOf i).toNat)
 case atStart => exact ⟨0,Nat.zero_le _,rfl,Lib.hid (fun j hj => absurd hj (by omega))⟩
 case round =>
   obtain ⟨j,hj,rfl,hno⟩:=hrel
   by_cases hlt : j < n1
   · obtain ⟨b,o,rfl,hl,hc⟩:=HN.out.2 (by omega)
     obtain ⟨h1,h2,h3⟩:=hc j hlt
     have hW : Hid (b < w.heap.size):=Lib.hid hl
     have g1 : W.cell? ⟨b,o + j * 3,none⟩ = some (.int .i64 (gn ns j).f):=(hB.cell (p:=⟨b,_,none⟩) hl).trans h1
     have g2 : W.cell? ⟨b,o + j * 3 + 1,none⟩ = some (.int .i64 (gn ns j).k):=(hB.cell (p:=⟨b,_,none⟩) hl).trans h2
     clear hc h1 h2 h3 hl
     by_cases e1 : (gn ns j).f = f
     · have e1' : ((gn ns j).f == f) = true:=by simpa using e1
       by_cases e2 : (gn ns j).k = k
       · have e2' : ((gn ns j).k == k) = true:=by simpa using e2
         have hh : Hid (Sp.kindAt ns f k = j):=Lib.hid (Sp.kind_hit hno.out (by rw [HL.out];exact hlt) (by simp [e1',e2']))
         clear e1 e2
         go_wp2_with fail
         go_ret
         exact ⟨ret_int hh.out.symm,hB⟩
       · have e2' : ((gn ns j).k == k) = false:=by simpa using e2
         have hno' : Hid (∀ x,x < j + 1 → ((gn ns x).f == f && (gn ns x).k == k) = false):=fun x hx => by
           rcases Nat.lt_or_ge x j with h9 | h9
           · exact hno.out x h9
           · obtain rfl : x = j:=by omega
             rw [e2',Bool.and_false]
         clear e1 e2
         go_wp2_with fail
         exact ⟨⟨j + 1,by omega,by go_num,hno'⟩,by simp [intOf];omega⟩
     · have e1' : ((gn ns j).f == f) = false:=by simpa using e1
       have hno' : Hid (∀ x,x < j + 1 → ((gn ns x).f == f && (gn ns x).k == k) = false):=fun x hx => by
         rcases Nat.lt_or_ge x j with h9 | h9
         · exact hno.out x h9
         · obtain rfl : x = j:=by omega
           rw [e1',Bool.false_and]
       clear e1
       go_wp2_with fail
       exact ⟨⟨j + 1,by omega,by go_num,hno'⟩,by simp [intOf];omega⟩
   · go_wp2_with fail
     go_ret
     exact ⟨ret_int (Sp.kind_miss (fun x hx => hno.out x (by rw [HL.out] at hx;omega))).symm,hB⟩
end Go.Proofs.YtincpmdldpakkaaGreatDoor
namespace Go.Df.Sp
def fe (err : Nat → Int) : Nat → Nat → Int
 | _,0 => 0
 | k,n + 1 => if err k = 0 then fe err (k + 1) n else err k
theorem fe_from (err : Nat → Int) (n : Nat) : ∀ (k j : Nat),(∀ i,k ≤ i → i < j → err i = 0) → k ≤ j → j < k + n → err j ≠ 0 → fe err k n = err j:=by
 induction n with
 | zero => intro k j _ h1 h2;omega
 | succ n ih =>
   intro k j h h1 h2 h3
   rw [fe]
   rcases Nat.lt_or_ge k j with h4 | h4
   · rw [if_pos (h k (Nat.le_refl _) h4)]
     exact ih (k + 1) j (fun i hi hj => h i (by omega) hj) (by omega) (by omega) h3
   · obtain rfl : k = j:=by omega
     rw [if_neg h3]
theorem fe_hit {err : Nat → Int} {n j : Nat} {e : Int} (h : ∀ i,i < j → err i = 0) (hj : j < n) (he : err j = e) (h0 : e ≠ 0) : fe err 0 n = e:=by
 subst he
 exact fe_from err n 0 j (fun i _ hi => h i hi) (Nat.zero_le _) (by omega) h0
theorem fe_ok {err : Nat → Int} (n : Nat) : ∀ k,(∀ i,k ≤ i → i < k + n → err i = 0) → fe err k n = 0:=by
 induction n with
 | zero => intro k _;rfl
 | succ n ih =>
   intro k h
   rw [fe,if_pos (h k (Nat.le_refl _) (by omega))]
   exact ih (k + 1) (fun i hi hj => h i (by omega) (by omega))
theorem fe_zero {err : Nat → Int} (n : Nat) : ∀ k,fe err k n = 0 → ∀ i,k ≤ i → i < k + n → err i = 0:=by
 induction n with
 | zero => intro k _ i h1 h2;omega
 | succ n ih =>
   intro k h i h1 h2
   rw [fe] at h
   by_cases e : err k = 0
   · rw [if_pos e] at h
     rcases Nat.eq_or_lt_of_le h1 with rfl | h3
     · exact e
     · exact ih (k + 1) h i (by omega) (by omega)
   · rw [if_neg e] at h;exact absurd h e
def nodeErr (ns : List Nd) (j : Nat) : Int :=
 if (gn ns j).k < 1 ∨ 4 < (gn ns j).k then 12
 else if (gn ns j).f < 0 ∨ ((gn ns j).k = 2 ∧ (gn ns j).i < 0) ∨ ((gn ns j).k ≠ 2 ∧ (gn ns j).i ≠ -1) then 4
 else if 0 < j ∧ lessN (gn ns (j - 1)) (gn ns j) = false then 13 else 0
def wholeErr (ns : List Nd) (j : Nat) : Int :=
 if kindAt ns (gn ns j).f 1 < 0 ∨ kindAt ns (gn ns j).f 3 < 0 ∨ kindAt ns (gn ns j).f 4 < 0 then 1 else 0
def mainErr (ns : List Nd) (m : Int) : Int:=if m < 0 ∨ (ns.length : Int) ≤ m ∨ (gn ns m.toNat).k ≠ 1 then 14 else 0
def nodesErr (ns : List Nd) (m : Int) : Int :=
 if fe (nodeErr ns) 0 ns.length ≠ 0 then fe (nodeErr ns) 0 ns.length else if fe (wholeErr ns) 0 ns.length ≠ 0 then fe (wholeErr ns) 0 ns.length else mainErr ns m
end Go.Df.Sp
namespace Go.Proofs.YtincpmdldpakkaaGreatDoor
open Go.RowKit Go.Df
attribute [local go_sem ↓] Go.wp_at_zero Go.wp_at_succ
set_option maxHeartbeats 1000000 in
theorem start_any (A1 A2 : Option Addr) (n1 c1 n2 c2 : Nat) (mn f : Int) (ns : List Sp.Nd) (w : World) (hn : Nds w A1 n1 ns) (hs : n1 ≤ 1000000) :
   Calls Tryz.prog 118 #[.agg #[.slice A1 n1 c1,.slice A2 n2 c2,.int .i64 mn],.int .i64 f] w fun e w' => e = .returned (.int .i64 (Sp.kindAt ns f 1)) ∧ Below w.heap.size w w':=by
 have HN:=Lib.hid hn
 clear hn
 go_enter Tryz.func118,Tryz.ntmps118
 go_upto_region 1 with fail
 refine wp_named (fun W => ∃ b0,w.heap.size = b0 ∧ Blk W b0 [.slice A1 n1 c1,.slice A2 n2 c2,.int .i64 mn] ∧ Below w.heap.size w W) ⟨_,rfl,?_,?_⟩ ?_
 · exact kbn
 · go_grown
 rintro W ⟨b0,e0,B0,hB⟩
 rw [e0]
 have G0 : w.heap.size ≤ b0:=by omega
 clear e0
 have ⟨L0,C0,F0⟩:=B0
 go_wp2_with fail
 refine (kind_any _ _ _ _ _ _ _ _ _ ns _ (HN.out.later hB) hs).mono ?_
 rintro e w1 ⟨rfl,hb1⟩
 go_wp2_with fail
 go_ret
 exact ⟨rfl,below_step hB.size hB hb1⟩
set_option maxHeartbeats 1000000 in
theorem exit_any (A1 A2 : Option Addr) (n1 c1 n2 c2 : Nat) (mn f : Int) (ns : List Sp.Nd) (w : World) (hn : Nds w A1 n1 ns) (hs : n1 ≤ 1000000) :
   Calls Tryz.prog 121 #[.agg #[.slice A1 n1 c1,.slice A2 n2 c2,.int .i64 mn],.int .i64 f] w fun e w' => e = .returned (.tuple #[.int .i64 (Sp.kindAt ns f 3),.int .i64 (Sp.kindAt ns f 4)]) ∧ Below w.heap.size w w':=by
 have HN:=Lib.hid hn
 clear hn
 go_enter Tryz.func121,Tryz.ntmps121
 go_upto_region 1 with fail
 refine wp_named (fun W => ∃ b0,w.heap.size = b0 ∧ Blk W b0 [.slice A1 n1 c1,.slice A2 n2 c2,.int .i64 mn] ∧ Below w.heap.size w W) ⟨_,rfl,?_,?_⟩ ?_
 · exact kbn
 · go_grown
 rintro W ⟨b0,e0,B0,hB⟩
 rw [e0]
 have G0 : w.heap.size ≤ b0:=by omega
 clear e0
 have ⟨L0,C0,F0⟩:=B0
 have HW:=Lib.hid (HN.out.later hB)
 go_wp2_with fail
 go_region_held3 (fun w' => SX0 W w') (exact kp0)
   (first | (go_at_call 175;((with_reducible refine (kind_any _ _ _ _ _ _ _ _ _ ns _ (HW.out.kept (by first | exact (by assumption : SX0 W _).1)) hs).mono ?_));rintro e w3 ⟨rfl,hb3⟩;obtain ⟨hc3,hf3,hg3⟩:=bcell hb3;have hz3:=hb3.size;try simp at hz3))
 all_goals
   go_wp2_with fail
   go_ret2
   refine ⟨rfl,Kept.below (X:=[]) hB hB.size (by simp) ?_⟩
   (exact kpt0)
end Go.Proofs.YtincpmdldpakkaaGreatDoor
