/- Texts: Rb Xa Xb Rc Si Sk. -/
import Derived.Test.YtooejoajojanjaaGreatDoorXSf15
import Derived.Test.YtooejoajojanjaaGreatDoorXSf03
import Derived.Lib.SlicesCompact
import Derived.Test.YtooejoajojanjaaGreatDoorXSf05
import Derived.Test.YtooejoajojanjaaGreatDoorProg
import Derived.Shelf.Sort.Plain
import Derived.Shelf.Slices.CompactI
import Derived.Shelf.Lays2
import Derived.Test.YtooejoajojanjaaGreatDoorXSf06
import Derived.Maps.OwnOps
namespace Go.Df.If
open Go.RowKit Go.Df
def GetE (w : World) (r : List Su × Int × Int) (e : Ending) (w' : World) : Prop :=
 (r.2.2 = 0 → ∃ A n c, e = .returned (.tuple #[.slice A n c, .nilIface]) ∧ r.2.1 = 0 ∧ SmW w' A n r.1) ∧ (r.2.2 ≠ 0 → e = .returned (.tuple #[.slice none 0 0, .iface 91 (.agg #[.int .i64 r.2.1, .int .i64 r.2.2])]) ∧ r.1 = []) ∧ Below w.heap.size w w'
end Go.Df.If
namespace Go.Proofs.YtooejoajojanjaaGreatDoor
open Go.RowKit Go.Df Go.Df.If
attribute [local go_sem ↓] Go.wp_at_zero Go.wp_at_succ
set_option maxRecDepth 100000 in
set_option maxHeartbeats 8000000 in
theorem pparse_any (s : Bs) (w : World) (hs : s.length ≤ 9223372036854775807) (hm : Mx w.heap.size w) :
   Calls Tryz.prog 46 #[.string ⟨s.toArray⟩] w (GetE w (parS s)) := by
 obtain ⟨ln, hln⟩ : ∃ ln, s.length = ln := ⟨_, rfl⟩
 have HLN := Lib.hid hln
 by_cases hbig : 65536 < ln
 · have g1 : decide ((65536 : Int) < (ln : Int)) = true := by simp; omega
   have hE : Hid (parS s = ([], 0, 3)) := Lib.hid (by unfold parS; rw [if_pos (by omega)])
   clear hbig HLN hm
   go_enter Tryz.func46, Tryz.ntmps46
   go_wp2_with fail
   go_ret2
   rw [hE.out]
   exact ⟨fun h => (by cases h), fun _ => ⟨rfl, rfl⟩, Below.refl _ _⟩
 have g1 : decide ((65536 : Int) < (ln : Int)) = false := by simp; omega
 have HE0 : Hid (parF 1 [] s = parS s) := Lib.hid (by unfold parS parF; rw [if_neg (by omega)])
 have hln9 : ln ≤ 65536 := by omega
 have HM := Lib.hid hm
 clear hbig hs hm
 go_enter Tryz.func46, Tryz.ntmps46
 go_wp2_with fail
 go_loopw [0, 4, 5] (fun s0 s4 s5 wr => ∃ (r : Bs) (k : Nat) (A : Option Addr) (n c : Nat) (L : List Su) (R : Nat → Bool → Value) (cs : List Value), s0 = .string ⟨r.toArray⟩ ∧ s5 = .int .i64 ((k + 1 : Nat) : Int) ∧ s4 = .slice A n c ∧ k + r.length ≤ 65536 ∧ Hid (SmO wr w.heap.size 30 72 A n c L R cs) ∧ Hid (sumErr 1024 L = 0) ∧ Hid (parF (k + 1) L r = parS s) ∧ Hid (Below w.heap.size w wr)) (fun s0 _ _ _ => match s0 with | .string b => b.size | _ => 0)
 case atStart => exact ⟨s, 0, none, 0, 0, [], fun _ _ => .nilIface, [], rfl, rfl, rfl, by omega, Lib.hid (SmO.nil _ _ _ _ _), Lib.hid sum_nil, HE0, Lib.hid (Below.refl _ _)⟩
 case round =>
 obtain ⟨r, k, A, n, c, L, R, cs, rfl, rfl, rfl, hkr, HS, HOK, HP, HB⟩ := hrel
 have hsz := HB.out.size
 by_cases h0 : r = []
 · subst h0
   have hE : Hid (parS s = (L, 0, 0)) := Lib.hid (by rw [← HP.out]; exact parF_nil _ _)
   go_wp2_with fail
   go_ret2
   rw [hE.out]
   exact ⟨fun _ => ⟨A, n, c, rfl, rfl, HS.out.sm⟩, fun h => absurd rfl h, HB.out⟩
 have g7 : r.isEmpty = false := by
   cases r with
   | nil => exact absurd rfl h0
   | cons => rfl
 have HM2 := Lib.hid (HM.out.later HB.out)
 have HCU := Lib.hid (pcut_any r wr (by omega) HM2.out)
 cases hc : cutN r with
 | none =>
   have hE : Hid (parS s = ([], ((k + 1 : Nat) : Int), 21)) := Lib.hid (by rw [← HP.out]; exact parF_none h0 hc)
   rw [hc] at HCU
   clear hc
   go_wp2_with (go_at_call 75; refine HCU.out.mono ?_; rintro e w1 ⟨rfl, hk1⟩)
   go_ret2
   rw [hE.out]
   exact ⟨fun h => (by cases h), fun _ => ⟨rfl, rfl⟩, HB.out.trans (hk1.below0 hsz)⟩
 | some q =>
 obtain ⟨a, r2⟩ := q
 have HPA : Hid (parF (k + 1) L r = if (linS L a).1 ≠ 0 then ([], ((k + 1 : Nat) : Int), (linS L a).1) else parF (k + 1 + 1) (linS L a).2 r2) := Lib.hid (parF_some hc)
 have hlen := congrArg List.length (cutN_len hc)
 rw [List.length_append, List.length_cons] at hlen
 have HLI := Lib.hid (fun (w1 : World) (hk : Kept [] wr w1) => pline_any w.heap.size A n c L a R cs w1 (HS.out.keep hk) HOK.out (by omega) (by have := hk.size; omega) (HM2.out.later (hk.below0 hsz)))
 have HLO := Lib.hid (lin_ok (L := L) (s := a))
 obtain ⟨rr, hr⟩ : ∃ rr, linS L a = rr := ⟨_, rfl⟩
 rw [hr] at HPA HLI HLO
 rw [hc] at HCU
 obtain ⟨pe, L2⟩ := rr
 clear hc hr
 go_upto_region 11 with (first | (go_at_call 75; refine HCU.out.mono ?_; rintro e w1 ⟨rfl, hk1⟩; have HK1 := Lib.hid hk1) | (go_at_call 76; refine (HLI.out _ HK1.out).mono ?_; rintro e w2 ⟨A2, n2, c2, rfl, hS2, hb2⟩))
 have HS2 := Lib.hid hS2
 have HB2 : Hid (Below w.heap.size w w2) := Lib.hid ((HB.out.trans (hk1.below0 hsz)).trans hb2)
 clear hS2
 by_cases hp0 : pe = 0
 case neg =>
   have d0 : (pe != 0) = true := by simpa using hp0
   have hE : Hid (parS s = ([], ((k + 1 : Nat) : Int), pe)) := Lib.hid (by rw [← HP.out, HPA.out, if_pos hp0])
   have HP0 := Lib.hid hp0
   clear hp0
   go_wp2_with fail
   go_ret2
   rw [hE.out]
   exact ⟨fun h => absurd h HP0.out, fun _ => ⟨rfl, rfl⟩, HB2.out⟩
 subst hp0
 have HP2 : Hid (parF (k + 1 + 1) L2 r2 = parS s) := Lib.hid (by rw [← HP.out, HPA.out, if_neg (by simp)])
 obtain ⟨R2, cs2, hS3⟩ := HS2.out rfl
 have HS3 := Lib.hid hS3
 have HO3 := Lib.hid (HLO.out rfl)
 clear hS3
 go_wp2_with fail
 exact ⟨⟨r2, k + 1, A2, n2, c2, L2, R2, cs2, rfl, by go_num, rfl, by omega, HS3, HO3, HP2, HB2⟩, by simp [ByteArray.size]; omega⟩
set_option maxRecDepth 100000 in
set_option maxHeartbeats 8000000 in
theorem pParse_any (s : Bs) (w : World) (hs : s.length ≤ 9223372036854775807) (hm : Mx w.heap.size w) (hg : w.cell? ⟨0, 0, none⟩ = some (.iface 195 (.agg #[.pointer (some ⟨7, 79, none⟩)]))) :
   Calls Tryz.prog 19 #[.string ⟨s.toArray⟩] w (GetL w (parS s)) := by
 have HPP := Lib.hid (pparse_any s w hs hm)
 obtain ⟨r, hr⟩ : ∃ r, parS s = r := ⟨_, rfl⟩
 rw [hr] at HPP ⊢
 obtain ⟨L, pk, pe⟩ := r
 have HG := Lib.hid hg
 have hlt : 0 < w.heap.size := by
   rcases Nat.eq_zero_or_pos w.heap.size with h0 | h
   · simp [World.cell?, h0] at hg
   · exact h
 clear hr hs hm hg
 by_cases h0 : pe = 0
 · have HPQ : Hid (Calls Tryz.prog 46 #[.string ⟨s.toArray⟩] w fun e w' => ∃ A n c, e = .returned (.tuple #[.slice A n c, .nilIface]) ∧ pk = 0 ∧ SmW w' A n L ∧ Below w.heap.size w w') := Lib.hid (HPP.out.mono fun e w' h => (let ⟨A, n, c, h1, h2, h3⟩ := h.1 h0; ⟨A, n, c, h1, h2, h3, h.2.2⟩))
   clear HPP
   subst h0
   go_enter Tryz.func19, Tryz.ntmps19
   go_wp2_with (go_at_call 46; refine HPQ.out.mono ?_; rintro e w1 ⟨A, n, c, rfl, rfl, hS, hb⟩)
   go_ret3
   exact ⟨A, n, c, rfl, hS, hb⟩
 have HPQ : Hid (Calls Tryz.prog 46 #[.string ⟨s.toArray⟩] w fun e w' => e = .returned (.tuple #[.slice none 0 0, .iface 91 (.agg #[.int .i64 pk, .int .i64 pe])]) ∧ L = [] ∧ Below w.heap.size w w') := Lib.hid (HPP.out.mono fun e w' h => (let ⟨h1, h2⟩ := h.2.1 h0; ⟨h1, h2, h.2.2⟩))
 clear HPP h0
 go_enter Tryz.func19, Tryz.ntmps19
 go_upto_region 5 with (go_at_call 46; refine HPQ.out.mono ?_; rintro e w1 ⟨rfl, rfl, hb⟩)
 refine wp_named (fun V => ∃ t, w1.heap.size = t ∧ Blk V t [.int .i64 0, .int .i64 0] ∧ Kept [] w1 V) ⟨_, rfl, Blk.new _ _ _ _ rfl, (Kept.refl _ _).alloc _⟩ ?_
 rintro V ⟨t, et, BV, hkV⟩
 rw [et]
 have HKV : Hid (Kept [] w V) := Lib.hid (keptTrans ((Kept.refl [] w).call hb) hkV)
 have hgV : V.cell? ⟨0, 0, none⟩ = some (.iface 195 (.agg #[.pointer (some ⟨7, 79, none⟩)])) := (HKV.out.cell 0 0 hlt (by simp)).trans HG.out
 have HET := Lib.hid et
 have HAS := Lib.hid (as_any pk pe t _ _ V hgV BV)
 clear et hgV
 go_upto_region 6 with (go_at_call 47; refine HAS.out.mono ?_; rintro e w2 ⟨rfl, B2, hk2⟩)
 have ⟨L2, C2, F2⟩ := B2
 have HB2 : Hid (Below w.heap.size w w2) := Lib.hid (by
   have h1 := HKV.out.toBelow
   have h2 := hb.size
   have h3 := HET.out
   exact h1.trans (keptBelow hk2 (by simp; omega) HKV.out.size))
 clear hk2 B2
 go_quiet (fail)
 go_wp2_with fail
 go_ret3
 exact ⟨none, 0, 0, rfl, ⟨rfl, fun h => absurd h (by omega)⟩, HB2.out.trans (((Kept.refl [] w2).drewN _).toBelow.mono HB2.out.size)⟩
end Go.Proofs.YtooejoajojanjaaGreatDoor
namespace Go.Df
open Go.RowKit
namespace If
def wfs (x : Int) (s : List Int × Bool) (y : Int) : List Int × Bool := if s.2 = false ∧ x < y then (s.1 ++ [x] ++ [y], true) else (s.1 ++ [y], s.2)
def wfl (x : Int) (l : List Int) : List Int × Bool := l.foldl (wfs x) ([], false)
def withF (l : List Int) (x : Int) : List Int := if x ∈ l then l else if (wfl x l).2 = true then (wfl x l).1 else (wfl x l).1 ++ [x]
def ascF (l : List Int) : List Int := l.foldl withF []
def joinF (a b : List Int) : List Int := ascF (a ++ b)
def seedF (sd : List Sd) (nd : Int) : List Int := (sd.filter fun s => decide (s.n = nd)).map (·.f)
def apO (f : List Pr) (l : List Int) : List Int := (f.filter fun q => decide (q.o ≠ 0) && (decide (q.i = 0) || decide (q.i ∈ l))).map (·.o)
def applyF (f : List Pr) (l : List Int) : List Int := ascF (apO f l)
def stepF (p : Pb) (l : List Int) (k : Int) : List Int := joinF (applyF (gf p.fl k.toNat) l) (seedF p.sd (ge p.es k.toNat).b)
def alongF (p : Pb) (path : List Int) : List Int := path.foldl (stepF p) (joinF (seedF p.sd p.mn) [])
theorem wfl_gen (x : Int) : ∀ (l : List Int) (s : List Int × Bool), (l.Pairwise (· < ·)) → (∀ a ∈ s.1, ∀ b ∈ l, a < b) → s.1.Pairwise (· < ·) → x ∉ l → (s.2 = false → ∀ a ∈ s.1, a < x) → (s.2 = true → ∀ b ∈ l, x < b) →
   (l.foldl (wfs x) s).1.Pairwise (· < ·) ∧ ((l.foldl (wfs x) s).2 = false → ∀ a ∈ (l.foldl (wfs x) s).1, a < x) ∧ (∀ y, y ∈ (l.foldl (wfs x) s).1 ↔ y ∈ s.1 ∨ y ∈ l ∨ (s.2 = false ∧ (l.foldl (wfs x) s).2 = true ∧ y = x)) ∧ (s.2 = true → (l.foldl (wfs x) s).2 = true)
 | [], s, _, _, h2, _, h3, _ => by
   refine ⟨h2, h3, fun y => ?_, fun h => h⟩
   simp only [List.foldl_nil, List.not_mem_nil, false_or]
   constructor
   · exact fun h => Or.inl h
   · rintro (h | ⟨h, h', -⟩)
     · exact h
     · rw [h] at h'; cases h'
 | y :: l, s, h0, h1, h2, hx, h3, h4 => by
   rw [List.pairwise_cons] at h0
   rw [List.foldl_cons]
   have hxy : x ≠ y := fun h => hx (by rw [h]; simp)
   have hxl : x ∉ l := fun h => hx (List.mem_cons_of_mem _ h)
   by_cases hc : s.2 = false ∧ x < y
   · have e : wfs x s y = (s.1 ++ [x] ++ [y], true) := by unfold wfs; rw [if_pos hc]
     rw [e]
     have h5 := h3 hc.1
     have h6 : ∀ a ∈ s.1, a < y := fun a ha => h1 a ha y (by simp)
     obtain ⟨g1, g2, g3, g4⟩ := wfl_gen x l (s.1 ++ [x] ++ [y], true) h0.2 (fun a ha b hb => by
       simp only [List.mem_append, List.mem_singleton] at ha
       have := h0.1 b hb
       rcases ha with (ha | rfl) | rfl
       · exact h1 a ha b (List.mem_cons_of_mem _ hb)
       · omega
       · exact this) (by
       rw [List.pairwise_append, List.pairwise_append]
       refine ⟨⟨h2, by simp, fun a ha b hb => ?_⟩, by simp, fun a ha b hb => ?_⟩
       · simp only [List.mem_singleton] at hb; subst hb; exact h5 a ha
       · simp only [List.mem_singleton, List.mem_append] at hb ha; subst hb
         rcases ha with ha | rfl
         · exact h6 a ha
         · exact hc.2) hxl (fun h => by cases h) (fun _ b hb => by have := h0.1 b hb; omega)
     refine ⟨g1, g2, fun z => ?_, fun _ => g4 rfl⟩
     rw [g3]
     have := g4 rfl
     rw [hc.1, this]
     simp only [List.mem_append, List.mem_cons, List.not_mem_nil, or_false]
     grind
   · have e : wfs x s y = (s.1 ++ [y], s.2) := by unfold wfs; rw [if_neg hc]
     rw [e]
     have hyx : s.2 = false → y < x := fun h => by
       rcases Int.lt_or_le x y with h9 | h9
       · exact absurd ⟨h, h9⟩ hc
       · omega
     have h6 : ∀ a ∈ s.1, a < y := fun a ha => h1 a ha y (by simp)
     obtain ⟨g1, g2, g3, g4⟩ := wfl_gen x l (s.1 ++ [y], s.2) h0.2 (fun a ha b hb => by
       simp only [List.mem_append, List.mem_singleton] at ha
       have := h0.1 b hb
       rcases ha with ha | rfl
       · exact h1 a ha b (List.mem_cons_of_mem _ hb)
       · exact this) (by
       rw [List.pairwise_append]
       refine ⟨h2, by simp, fun a ha b hb => ?_⟩
       simp only [List.mem_singleton] at hb; subst hb; exact h6 a ha) hxl (fun h a ha => by
       simp only [List.mem_append, List.mem_singleton] at ha
       rcases ha with ha | rfl
       · exact h3 h a ha
       · exact hyx h) (fun h b hb => h4 h b (List.mem_cons_of_mem _ hb))
     refine ⟨g1, g2, fun z => ?_, g4⟩
     rw [g3]
     simp only [List.mem_append, List.mem_cons, List.not_mem_nil, or_false]
     grind
theorem withF_asc {l : List Int} (h : l.Pairwise (· < ·)) (x : Int) : (withF l x).Pairwise (· < ·) ∧ ∀ y, y ∈ withF l x ↔ y ∈ l ∨ y = x := by
 unfold withF
 by_cases hx : x ∈ l
 · rw [if_pos hx]
   exact ⟨h, fun y => ⟨fun h => Or.inl h, fun h => by rcases h with h | rfl; exact h; exact hx⟩⟩
 rw [if_neg hx]
 obtain ⟨g1, g2, g3, g4⟩ := wfl_gen x l ([], false) h (fun a ha => by simp at ha) List.Pairwise.nil hx (fun _ a ha => by simp at ha) (fun h => by cases h)
 change (wfl x l).1.Pairwise (· < ·) at g1
 change (wfl x l).2 = false → ∀ a ∈ (wfl x l).1, a < x at g2
 change ∀ y, y ∈ (wfl x l).1 ↔ y ∈ [] ∨ y ∈ l ∨ (false = false ∧ (wfl x l).2 = true ∧ y = x) at g3
 by_cases h2 : (wfl x l).2 = true
 · rw [if_pos h2]
   refine ⟨g1, fun y => ?_⟩
   rw [g3, h2]
   simp
 · rw [if_neg h2]
   have h3 : (wfl x l).2 = false := by simpa using h2
   refine ⟨?_, fun y => ?_⟩
   · rw [List.pairwise_append]
     refine ⟨g1, by simp, fun a ha b hb => ?_⟩
     simp only [List.mem_singleton] at hb; subst hb; exact g2 h3 a ha
   · rw [List.mem_append, g3, h3]
     simp
theorem foldF_asc : ∀ (l s : List Int), s.Pairwise (· < ·) → (l.foldl withF s).Pairwise (· < ·) ∧ ∀ y, y ∈ l.foldl withF s ↔ y ∈ s ∨ y ∈ l
 | [], s, h => ⟨h, fun y => by simp⟩
 | x :: l, s, h => by
   obtain ⟨h1, h2⟩ := withF_asc h x
   obtain ⟨h3, h4⟩ := foldF_asc l (withF s x) h1
   refine ⟨h3, fun y => ?_⟩
   rw [List.foldl_cons, h4, h2]
   simp only [List.mem_cons]
   grind
theorem ascF_asc (l : List Int) : (ascF l).Pairwise (· < ·) := (foldF_asc l [] List.Pairwise.nil).1
theorem ascF_mem (l : List Int) (y : Int) : y ∈ ascF l ↔ y ∈ l := by
 have := (foldF_asc l [] List.Pairwise.nil).2 y
 unfold ascF
 rw [this]; simp
theorem asc_eq : ∀ {a b : List Int}, a.Pairwise (· < ·) → b.Pairwise (· < ·) → (∀ y, y ∈ a ↔ y ∈ b) → a = b
 | [], [], _, _, _ => rfl
 | [], y :: b, _, _, h => by have := (h y).2 (by simp); simp at this
 | x :: a, [], _, _, h => by have := (h x).1 (by simp); simp at this
 | x :: a, y :: b, ha, hb, h => by
   rw [List.pairwise_cons] at ha hb
   have e : x = y := by
     have h1 := (h x).1 (by simp)
     have h2 := (h y).2 (by simp)
     rw [List.mem_cons] at h1 h2
     rcases h1 with h1 | h1
     · exact h1
     · rcases h2 with h2 | h2
       · exact h2.symm
       · have := ha.1 y h2
         have := hb.1 x h1
         omega
   subst e
   congr 1
   refine asc_eq ha.2 hb.2 fun z => ?_
   have h1 := h z
   rw [List.mem_cons, List.mem_cons] at h1
   constructor
   · intro hz
     have := ha.1 z hz
     rcases h1.1 (Or.inr hz) with rfl | h3
     · omega
     · exact h3
   · intro hz
     have := hb.1 z hz
     rcases h1.2 (Or.inr hz) with rfl | h3
     · omega
     · exact h3
theorem asc_ascF {a : List Int} (l : List Int) (ha : a.Pairwise (· < ·)) (h : ∀ y, y ∈ a ↔ y ∈ l) : a = ascF l := asc_eq ha (ascF_asc l) fun y => (h y).trans (ascF_mem l y).symm
theorem compact_sorted (l : List Int) (hs : l.Pairwise (· ≤ ·)) : (Lib.compact l).Pairwise (· < ·) ∧ ∀ y, y ∈ Lib.compact l ↔ y ∈ l := by
 have hget : ∀ j, l.toArray[j]! = l.getD j 0 := fun j => by simp [List.getD, getElem!_def]; cases l[j]? <;> rfl
 have hk : ∀ j, j < l.length → (Lib.keeps l.toArray j = true ↔ (j = 0 ∨ l.getD j 0 ≠ l.getD (j - 1) 0)) := fun j _ => by unfold Lib.keeps; rw [hget, hget]; simp
 have hle : ∀ i j, i ≤ j → j < l.length → l.getD i 0 ≤ l.getD j 0 := fun i j hij hj => by
   rw [List.getD_eq_getElem?_getD, List.getD_eq_getElem?_getD, List.getElem?_eq_getElem (by omega), List.getElem?_eq_getElem hj]
   rcases Nat.lt_or_eq_of_le hij with h | rfl
   · exact List.pairwise_iff_getElem.1 hs i j (by omega) hj h
   · exact Int.le_refl _
 constructor
 · unfold Lib.compact Lib.compactUpTo
   rw [List.pairwise_map]
   have h1 : (List.range l.length).Pairwise (· < ·) := List.pairwise_lt_range
   have h2 := h1.filter (p := Lib.keeps l.toArray)
   refine List.Pairwise.imp_of_mem ?_ h2
   intro i j _ hj hij
   rw [List.mem_filter, List.mem_range] at hj
   have hj2 := (hk j hj.1).1 hj.2
   rw [hget, hget]
   have := hle i (j - 1) (by omega) (by omega)
   have := hle (j - 1) j (by omega) hj.1
   rcases hj2 with h | h
   · omega
   · omega
 · intro y
   unfold Lib.compact Lib.compactUpTo
   rw [List.mem_map]
   constructor
   · rintro ⟨j, hj, rfl⟩
     rw [List.mem_filter, List.mem_range] at hj
     rw [hget, List.getD_eq_getElem?_getD, List.getElem?_eq_getElem hj.1]
     exact List.getElem_mem hj.1
   · intro hy
     obtain ⟨j, hj, rfl⟩ := List.getElem_of_mem hy
     have : ∀ j, (hj : j < l.length) → ∃ a, a ∈ List.filter (Lib.keeps l.toArray) (List.range l.length) ∧ l.toArray[a]! = l.getD j 0 := by
       intro j
       induction j with
       | zero => exact fun hj => ⟨0, by rw [List.mem_filter, List.mem_range]; exact ⟨hj, (hk 0 hj).2 (Or.inl rfl)⟩, hget 0⟩
       | succ j ih =>
         intro hj
         by_cases he : l.getD (j + 1) 0 = l.getD j 0
         · rw [he]; exact ih (by omega)
         · exact ⟨j + 1, by rw [List.mem_filter, List.mem_range]; exact ⟨hj, (hk (j + 1) hj).2 (Or.inr (by simpa using he))⟩, hget _⟩
     obtain ⟨a, h1, h2⟩ := this j hj
     refine ⟨a, h1, ?_⟩
     rw [h2, List.getD_eq_getElem?_getD, List.getElem?_eq_getElem hj]
     rfl
theorem sorted_compact (l : List Int) : Lib.compact (l.mergeSort fun x y => decide (x ≤ y)) = ascF l := by
 have hs : (l.mergeSort fun x y => decide (x ≤ y)).Pairwise (· ≤ ·) := by
   have h := List.pairwise_mergeSort (le := fun x y : Int => decide (x ≤ y)) (fun a b c h1 h2 => by simp at *; omega) (fun a b => by simp; omega) l
   exact h.imp (fun h => by simpa using h)
 obtain ⟨h1, h2⟩ := compact_sorted _ hs
 exact asc_ascF l h1 fun y => (h2 y).trans ((List.mergeSort_perm l _).mem_iff)
def wfi (x : Int) (l : List Int) (i : Nat) : List Int × Bool := (l.take i).foldl (wfs x) ([], false)
def foF (f s : List Int) (i : Nat) : List Int := (f.take i).foldl withF s
def seedI (l : List Sd) (nd : Int) (i : Nat) : List Int := seedF (l.take i) nd
def apI (f : List Pr) (l : List Int) (i : Nat) : List Int := apO (f.take i) l
theorem apI_succ {f : List Pr} {l : List Int} {i : Nat} (h : i < f.length) : apI f l (i + 1) = apI f l i ++ (if (gp f i).o ≠ 0 ∧ ((gp f i).i = 0 ∨ (gp f i).i ∈ l) then [(gp f i).o] else []) := by
 unfold apI apO
 rw [List.take_add_one, List.filter_append, List.map_append, gp_lt h, List.getElem?_eq_getElem h]
 congr 1
 by_cases e : f[i].o ≠ 0 ∧ (f[i].i = 0 ∨ f[i].i ∈ l)
 · rw [if_pos e]
   obtain ⟨e1, e2⟩ := e
   rcases e2 with e2 | e2
   · simp [e1, e2]
   · simp [e1, e2]
 · rw [if_neg e]
   have h9 : ¬ f[i].o = 0 → ¬ f[i].i = 0 ∧ ¬ f[i].i ∈ l := fun h8 => ⟨fun h7 => e ⟨h8, Or.inl h7⟩, fun h7 => e ⟨h8, Or.inr h7⟩⟩
   simpa using h9
theorem apI_all {f : List Pr} {l : List Int} {n : Nat} (h : f.length ≤ n) : apI f l n = apO f l := by
 unfold apI
 rw [List.take_of_length_le h]
end If
theorem ints_snoc (l : List Int) (x : Int) : l.map (Value.int .i64) ++ [.int .i64 x] = (l ++ [x]).map (Value.int .i64) := by simp
theorem Ints.ofOwn {w : World} {base : Nat} {e : TypeId} {A : Option Addr} {n c : Nat} {l : List Int} (h : w.ownsRow base e 1 (.slice A n c) n (l.map (Value.int .i64))) : Ints w A n l ∧ n ≤ c := by
 have hl : l.length = n := by simpa using h.1
 by_cases h0 : 0 < n
 · obtain ⟨g, c', hv, hb, hg, hc, -, hcell, -⟩ := own_cellsT h h0
   injection hv with e1 e2 e3
   subst e1
   subst e3
   refine ⟨⟨hl, fun _ => ⟨g, 0, rfl, hg, fun i hi => ?_⟩⟩, hc⟩
   rw [Nat.zero_add, hcell i (by omega), List.getElem?_map, List.getElem?_eq_getElem (by omega), gi_lt (by omega)]
   rfl
 · exact ⟨⟨hl, fun h => absurd h h0⟩, by omega⟩
def GetF (w : World) (l : List Int) (e : Ending) (w' : World) : Prop := ∃ A n c, e = .returned (.slice A n c) ∧ Ints w' A n l ∧ n ≤ c ∧ Below w.heap.size w w'
end Go.Df
namespace Go.Proofs.YtooejoajojanjaaGreatDoor
open Go.RowKit Go.Df Go.Df.If
attribute [local go_sem ↓] Go.wp_at_zero Go.wp_at_succ
theorem intf_info : (Tryz.prog.info? 3).map (fun i => (i.zero, i.size, i.bytes)) = some (some (.int .i64 0), 1, 8) := by kernel_rfl
end Go.Proofs.YtooejoajojanjaaGreatDoor
namespace Go.Proofs.YtooejoajojanjaaGreatDoor
open Go.Shelf
def laySr : Go.Shelf.Ren := ⟨fun | 189 => 69 | 125 => 112 | 257 => 111 | 128 => 156 | 129 => 157 | 294 => 147 | 295 => 148 | 296 => 149 | 297 => 150 | 298 => 151 | 299 => 152 | 216 => 153 | 300 => 154 | 301 => 155 | 328 => 172 | 329 => 173 | 330 => 174 | 331 => 175 | 332 => 176 | 215 => 110 | 343 => 191 | n => n, fun | 28 => 31 | 3 => 3 | 46 => 186 | 0 => 0 | 51 => 242 | 53 => 225 | 4 => 4 | 183 => 236 | 182 => 235 | 131 => 190 | 5 => 5 | 9 => 9 | 218 => 256 | 222 => 260 | 228 => 269 | 229 => 177 | n => n, fun | n => n⟩
theorem layS : Go.Proofs.Lays.n189 Tryz.prog laySr := {
 mixed := by kernel_rfl
 f125 := Tryz.func112.trans (congrArg some (by kernel_rfl))
 f128 := Tryz.func156.trans (congrArg some (by kernel_rfl))
 f129 := Tryz.func157.trans (congrArg some (by kernel_rfl))
 f189 := Tryz.func69.trans (congrArg some (by kernel_rfl))
 f215 := Tryz.func110.trans (congrArg some (by kernel_rfl))
 f216 := Tryz.func153.trans (congrArg some (by kernel_rfl))
 f257 := Tryz.func111.trans (congrArg some (by kernel_rfl))
 f294 := Tryz.func147.trans (congrArg some (by kernel_rfl))
 f295 := Tryz.func148.trans (congrArg some (by kernel_rfl))
 f296 := Tryz.func149.trans (congrArg some (by kernel_rfl))
 f297 := Tryz.func150.trans (congrArg some (by kernel_rfl))
 f298 := Tryz.func151.trans (congrArg some (by kernel_rfl))
 f299 := Tryz.func152.trans (congrArg some (by kernel_rfl))
 f300 := Tryz.func154.trans (congrArg some (by kernel_rfl))
 f301 := Tryz.func155.trans (congrArg some (by kernel_rfl))
 f328 := Tryz.func172.trans (congrArg some (by kernel_rfl))
 f329 := Tryz.func173.trans (congrArg some (by kernel_rfl))
 f330 := Tryz.func174.trans (congrArg some (by kernel_rfl))
 f331 := Tryz.func175.trans (congrArg some (by kernel_rfl))
 f332 := Tryz.func176.trans (congrArg some (by kernel_rfl))
 f343 := Tryz.func191.trans (congrArg some (by kernel_rfl))
 t0 := Tryz.underlying0
 a0 := Tryz.isAgg0
 z0 := Tryz.sizeOf0
 v0 := Tryz.zeroValue0
 t3 := Tryz.underlying3
 a3 := Tryz.isAgg3
 z3 := Tryz.sizeOf3
 v3 := Tryz.zeroValue3
 t4 := Tryz.underlying4
 a4 := Tryz.isAgg4
 z4 := Tryz.sizeOf4
 v4 := Tryz.zeroValue4
 t5 := Tryz.underlying5
 a5 := Tryz.isAgg5
 z5 := Tryz.sizeOf5
 v5 := Tryz.zeroValue5
 t9 := Tryz.underlying9
 a9 := Tryz.isAgg9
 z9 := Tryz.sizeOf9
 v9 := Tryz.zeroValue9
 t28 := Tryz.underlying31
 a28 := Tryz.isAgg31
 z28 := Tryz.sizeOf31
 v28 := Tryz.zeroValue31
 t46 := Tryz.underlying186
 a46 := Tryz.isAgg186
 z46 := Tryz.sizeOf186
 v46 := Tryz.zeroValue186
 t51 := Tryz.underlying242
 a51 := Tryz.isAgg242
 z51 := Tryz.sizeOf242
 v51 := Tryz.zeroValue242
 t53 := Tryz.underlying225
 a53 := Tryz.isAgg225
 z53 := Tryz.sizeOf225
 v53 := Tryz.zeroValue225
 t131 := Tryz.underlying190
 a131 := Tryz.isAgg190
 z131 := Tryz.sizeOf190
 v131 := Tryz.zeroValue190
 t182 := Tryz.underlying235
 a182 := Tryz.isAgg235
 z182 := Tryz.sizeOf235
 v182 := Tryz.zeroValue235
 t183 := Tryz.underlying236
 a183 := Tryz.isAgg236
 z183 := Tryz.sizeOf236
 v183 := Tryz.zeroValue236
 t218 := Tryz.underlying256
 a218 := Tryz.isAgg256
 z218 := Tryz.sizeOf256
 v218 := Tryz.zeroValue256
 t222 := Tryz.underlying260
 a222 := Tryz.isAgg260
 z222 := Tryz.sizeOf260
 v222 := Tryz.zeroValue260
 t228 := Tryz.underlying269
 a228 := Tryz.isAgg269
 z228 := Tryz.sizeOf269
 v228 := Tryz.zeroValue269
 t229 := Tryz.underlying177
 a229 := Tryz.isAgg177
 z229 := Tryz.sizeOf177
 v229 := Tryz.zeroValue177 }
def layCr : Go.Shelf.Ren := ⟨fun | 20 => 70 | n => n, fun | 22 => 31 | 3 => 3 | 4 => 4 | 0 => 0 | n => n, fun | n => n⟩
theorem layC : Go.Proofs.Lays2.n20 Tryz.prog layCr := {
 mixed := by kernel_rfl
 f20 := Tryz.func70.trans (congrArg some (by kernel_rfl))
 t0 := Tryz.underlying0
 a0 := Tryz.isAgg0
 z0 := Tryz.sizeOf0
 v0 := Tryz.zeroValue0
 t3 := Tryz.underlying3
 a3 := Tryz.isAgg3
 z3 := Tryz.sizeOf3
 v3 := Tryz.zeroValue3
 t4 := Tryz.underlying4
 a4 := Tryz.isAgg4
 z4 := Tryz.sizeOf4
 v4 := Tryz.zeroValue4
 t22 := Tryz.underlying31
 a22 := Tryz.isAgg31
 z22 := Tryz.sizeOf31
 v22 := Tryz.zeroValue31
 i3 := by kernel_rfl }
end Go.Proofs.YtooejoajojanjaaGreatDoor
namespace Go.Proofs.YtooejoajojanjaaGreatDoor
open Go.RowKit Go.Df
attribute [local go_sem ↓] Go.wp_at_zero Go.wp_at_succ
set_option maxRecDepth 100000 in
set_option maxHeartbeats 4000000 in
theorem starts_any (A1 A2 : Option Addr) (n1 c1 n2 c2 : Nat) (mn : Int) (ns : List Sp.Nd) (w : World) (hn : Nds w A1 n1 ns) (hs : n1 ≤ 1000000) (hw : ∀ j, j < n1 → (Lit.int .i64 (gn ns j).f).wf = true) :
   Calls Tryz.prog 122 #[.agg #[.slice A1 n1 c1, .slice A2 n2 c2, .int .i64 mn]] w fun e w' => Below w.heap.size w w' ∧
     (((∃ j, j < n1 ∧ Sp.cnt ns n1 (gn ns j).f ≠ 3) ∧ e = .returned (.tuple #[.map none, .bool false])) ∨
      ((∀ j, j < n1 → Sp.cnt ns n1 (gn ns j).f = 3) ∧ ∃ b, w.heap.size ≤ b ∧ e = .returned (.tuple #[.map (some b), .bool true]) ∧ MapV Tryz.prog 3 3 (.int .i64 0) w' b n1 (mv (Sp.lst ns n1)))) := by
 have HN := Lib.hid hn
 have HL := Lib.hid hn.1
 have HWF := Lib.hid hw
 clear hn hw
 go_enter Tryz.func122, Tryz.ntmps122
 go_upto_region 1 with fail
 refine wp_named (fun W => ∃ b0, w.heap.size = b0 ∧ Blk W b0 [.slice A1 n1 c1, .slice A2 n2 c2, .int .i64 mn] ∧ Below w.heap.size w W) ⟨_, rfl, ?_, ?_⟩ ?_
 · exact kbn
 · go_grown
 rintro W ⟨b0, e0, B0, hB⟩
 rw [e0]
 have G0 : w.heap.size ≤ b0 := by omega
 clear e0
 have ⟨L0, C0, F0⟩ := B0
 have HW := Lib.hid (HN.out.later hB)
 have hmm := @run_makeMap Tryz.prog
 go_upto_region 2 with fail
 refine wp_named (fun V => ∃ p q, W.heap.size = p ∧ W.heap.size + 1 = q ∧ MapV Tryz.prog 3 3 (.int .i64 0) V p 0 (fun _ => .int .i64 0) ∧ MapV Tryz.prog 3 3 (.int .i64 0) V q 0 (fun _ => .int .i64 0) ∧ Kept [] W V) ⟨_, _, rfl, rfl, (MapV.made _ _ _ _ _ _ rfl).kept ((Kept.refl [] _).alloc _) (by simp), MapV.made _ _ _ _ _ _ (by simp), ((Kept.refl _ _).alloc _).alloc _⟩ ?_
 rintro V ⟨p, q, ep, eq, Mp, Mq, hkV⟩
 rw [eq, ep]
 have hpq : p ≠ q := by omega
 have hpL : p < V.heap.size := Mp.lt
 have hqL : q < V.heap.size := Mq.lt
 have hp0 : p ≠ b0 := by omega
 have hq0 : q ≠ b0 := by omega
 have hpw : w.heap.size ≤ p := by have := hB.size; omega
 have hqw : w.heap.size ≤ q := by have := hB.size; omega
 have BV := hkV.blk (by simp) B0
 have ⟨LV, CV, FV⟩ := BV
 have HNV := Lib.hid (HW.out.kept hkV)
 have hbV := hkV.below hB hB.size (by simp)
 have MP := Lib.hid Mp
 have MQ := Lib.hid Mq
 clear C0 F0 hkV ep eq Mp Mq
 go_wp2_with fail
 go_loopw [15] (fun i wr => ∃ j : Nat, j ≤ n1 ∧ i = .int .i64 j ∧ Kept [p, q] V wr ∧ Hid (MapV Tryz.prog 3 3 (.int .i64 0) wr p j (mv (Sp.lst ns j))) ∧ Hid (MapV Tryz.prog 3 3 (.int .i64 0) wr q j (mv (Sp.cnt ns j)))) (fun i _ => n1 - (intOf i).toNat)
 case atStart => exact ⟨0, Nat.zero_le _, rfl, Kept.refl _ _, Lib.hid (MP.out.ext (fun key _ _ => by unfold mv; split <;> rfl)), Lib.hid (MQ.out.ext (fun key _ _ => by unfold mv; split <;> rfl))⟩
 case round =>
   obtain ⟨j, hj, rfl, hkr, mp, mq⟩ := hrel
   have hbr : Below w.heap.size w wr := hkr.below hbV hbV.size (by intro x hx; simp at hx; omega)
   by_cases hlt : j < n1
   · obtain ⟨b, o, rfl, hl, hc⟩ := HN.out.2 (by omega)
     obtain ⟨h1, h2, h3⟩ := hc j hlt
     clear hc
     have hwf := HWF.out j hlt
     obtain ⟨nf, nk, ni, en⟩ : ∃ nf nk ni, gn ns j = ⟨nf, nk, ni⟩ := ⟨_, _, _, rfl⟩
     rw [en] at h1 h2 h3 hwf
     have r1 : wr.cell? ⟨b, o + j * 3, none⟩ = some (.int .i64 nf) := (hbr.cell (p := ⟨b, _, none⟩) hl).trans h1
     have r2 : wr.cell? ⟨b, o + j * 3 + 1, none⟩ = some (.int .i64 nk) := (hbr.cell (p := ⟨b, _, none⟩) hl).trans h2
     have r3 : wr.cell? ⟨b, o + j * 3 + 2, none⟩ = some (.int .i64 ni) := (hbr.cell (p := ⟨b, _, none⟩) hl).trans h3
     have hl' : b < wr.heap.size := Nat.lt_of_lt_of_le hl hbr.size
     have HKY := Lib.hid (Tryz.keyInt nf hwf)
     have HVJ := Lib.hid (plainElem_int (H := Unit) Tryz.undInt (a := (j : Int)) (WalkArith.wf_i64 (by omega)))
     have HE := Lib.hid en
     obtain ⟨c, hc⟩ : ∃ c, Sp.cnt ns j nf = c := ⟨_, rfl⟩
     have hcb := Sp.cnt_le ns nf j
     rw [hc] at hcb
     have hw1 : IntKind.i64.wrap (c + 1) = c + 1 := IntWalk.i64_in _ (by omega)
     have HVC := Lib.hid (plainElem_int (H := Unit) Tryz.undInt (a := c + 1) (WalkArith.wf_i64 (by omega)))
     have HCQ := Lib.hid (show mv (Sp.cnt ns j) (.int .i64 nf) = .int .i64 c from congrArg _ hc)
     have HC := Lib.hid hc
     clear en h1 h2 h3 hl hc hwf
     go_upto_region 5 with fail
     refine wp_named (fun X => ∃ g, wr.heap.size = g ∧ Blk X g [.int .i64 nf, .int .i64 nk, .int .i64 ni] ∧ Kept [] wr X) ⟨_, rfl, Blk.new _ _ _ _ rfl, (Kept.refl _ _).alloc _⟩ ?_
     rintro X ⟨g, eg, Bg, hkX⟩
     rw [eg]
     have hgp : g ≠ p := by have := hkr.size; omega
     have hgq : g ≠ q := by have := hkr.size; omega
     have ⟨LG, CG, FG⟩ := Bg
     have mpx := Lib.hid (mp.out.kept hkX (by simp))
     have mqx := Lib.hid (mq.out.kept hkX (by simp))
     have hkw : Kept [p, q] V X := hkr.next hkX (by simp)
     have BG := Lib.hid Bg
     clear r1 r2 r3 hl' eg hkX mp mq hkr Bg
     by_cases k1 : nk = 1
     · have k1' : (nk == 1) = true := by simpa using k1
       have HG1 := Lib.hid (show mv (Sp.lst ns (j + 1)) (.int .i64 nf) = .int .i64 (j : Int) from congrArg (Lit.int .i64) (by unfold Sp.lst; rw [HE.out]; simp [k1]))
       have HG2 := Lib.hid (mv_put (g := Sp.lst ns j) (g' := Sp.lst ns (j + 1)) (a := nf) (fun x hx => by rw [Sp.lst, HE.out, if_neg (fun hh => hx hh.1.symm)]))
       have HG3 := Lib.hid (show mv (Sp.cnt ns (j + 1)) (.int .i64 nf) = .int .i64 (c + 1) from congrArg (Lit.int .i64) (by unfold Sp.cnt; rw [HE.out, HC.out]; simp [k1]))
       have HG4 := Lib.hid (mv_put (g := Sp.cnt ns j) (g' := Sp.cnt ns (j + 1)) (a := nf) (fun x hx => by rw [Sp.cnt, HE.out, if_neg (fun hh => hx hh.1.symm)]))
       clear k1
       go_wp2_with (first
         | (at_mapUpdate; refine wpList_store_map _ rfl _ _ _ 209 rfl 3 3 Tryz.lawInt Tryz.mapII (.int .i64 0) p j _ rfl mpx.out (by unfold maxLen; omega) (.int .i64 nf) (.int .i64 (j : Int)) (.int .i64 nf) _ rfl rfl HKY.out HVJ.out (mv (Sp.lst ns (j + 1))) HG1.out HG2.out ?_; intro w1 M1u hs1; have M1 := Lib.hid M1u; clear M1u; have ⟨LG1, CG1, FG1⟩ := hs1.blk (by simp; omega) BG.out; have BG1 := Lib.hid (hs1.blk (by simp; omega) BG.out); have mq1 := Lib.hid (mqx.out.kept hs1 (by simp; omega)); clear CG FG)
         | (at_lookup; refine wpList_look_int _ rfl _ _ 209 rfl 3 3 Tryz.lawInt Tryz.mapII Tryz.undInt (Tryz.zeroInt _) q j _ rfl mq1.out (.int .i64 nf) _ rfl HKY.out c HCQ.out ?_)
         | (at_mapUpdate; refine wpList_store_map _ rfl _ _ _ 209 rfl 3 3 Tryz.lawInt Tryz.mapII (.int .i64 0) q j _ rfl mq1.out (by unfold maxLen; omega) (.int .i64 nf) (.int .i64 (c + 1)) (.int .i64 nf) _ rfl rfl HKY.out HVC.out (mv (Sp.cnt ns (j + 1))) HG3.out HG4.out ?_; intro w2 M2u hs2; have M2 := Lib.hid M2u; clear M2u)
         | go_in)
       have hk12 : Kept [p, q] V w2 := (hkw.next hs1 (by simp)).next hs2 (by simp)
       exact ⟨⟨j + 1, by omega, by go_num, hk12, Lib.hid (M1.out.kept hs2 (by simp; omega)), M2⟩, by simp [intOf]; omega⟩
     · have k1' : (nk == 1) = false := by simpa using k1
       by_cases k3 : nk = 3 ∨ nk = 4
       · have k3' : (nk == 3) = true ∨ ((nk == 3) = false ∧ (nk == 4) = true) := by
           rcases k3 with rfl | rfl
           · exact Or.inl rfl
           · exact Or.inr ⟨rfl, rfl⟩
         have HG1 := Lib.hid (mpx.out.mono (Nat.le_succ j))
         have HG2 := Lib.hid (show mv (Sp.lst ns j) = mv (Sp.lst ns (j + 1)) from congrArg mv (funext (fun x => by rw [Sp.lst, HE.out, if_neg (fun hh => k1 hh.2)])))
         have HG3 := Lib.hid (show mv (Sp.cnt ns (j + 1)) (.int .i64 nf) = .int .i64 (c + 1) from congrArg (Lit.int .i64) (by unfold Sp.cnt; rw [HE.out, HC.out]; simp [k3]))
         have HG4 := Lib.hid (mv_put (g := Sp.cnt ns j) (g' := Sp.cnt ns (j + 1)) (a := nf) (fun x hx => by rw [Sp.cnt, HE.out, if_neg (fun hh => hx hh.1.symm)]))
         clear k1 k3
         rcases k3' with k3' | ⟨k3', k4'⟩
         all_goals
           go_wp2_with (first
             | (at_lookup; refine wpList_look_int _ rfl _ _ 209 rfl 3 3 Tryz.lawInt Tryz.mapII Tryz.undInt (Tryz.zeroInt _) q j _ rfl mqx.out (.int .i64 nf) _ rfl HKY.out c HCQ.out ?_)
             | (at_mapUpdate; refine wpList_store_map _ rfl _ _ _ 209 rfl 3 3 Tryz.lawInt Tryz.mapII (.int .i64 0) q j _ rfl mqx.out (by unfold maxLen; omega) (.int .i64 nf) (.int .i64 (c + 1)) (.int .i64 nf) _ rfl rfl HKY.out HVC.out (mv (Sp.cnt ns (j + 1))) HG3.out HG4.out ?_; intro w2 M2u hs2; have M2 := Lib.hid M2u; clear M2u)
             | go_in)
           have hk12 : Kept [p, q] V w2 := hkw.next hs2 (by simp)
           exact ⟨⟨j + 1, by omega, by go_num, hk12, Lib.hid (HG2.out ▸ HG1.out.kept hs2 (by simp; omega)), M2⟩, by simp [intOf]; omega⟩
       · have k3' : (nk == 3) = false := by simp; omega
         have k4' : (nk == 4) = false := by simp; omega
         have HG1 := Lib.hid (mpx.out.mono (Nat.le_succ j))
         have HG2 := Lib.hid (show mv (Sp.lst ns j) = mv (Sp.lst ns (j + 1)) from congrArg mv (funext (fun x => by rw [Sp.lst, HE.out, if_neg (fun hh => k1 hh.2)])))
         have HG3 := Lib.hid (mqx.out.mono (Nat.le_succ j))
         have HG4 := Lib.hid (show mv (Sp.cnt ns j) = mv (Sp.cnt ns (j + 1)) from congrArg mv (funext (fun x => by rw [Sp.cnt, HE.out, if_neg (fun hh => by simp only at hh; omega)])))
         clear k1 k3
         go_wp2_with fail
         exact ⟨⟨j + 1, by omega, by go_num, hkw, Lib.hid (HG2.out ▸ HG1.out), Lib.hid (HG4.out ▸ HG3.out)⟩, by simp [intOf]; omega⟩
   · obtain rfl : j = n1 := by omega
     have ⟨LR, CR, FR⟩ := hkr.blk (by simp; omega) BV
     have BR := hkr.blk (by simp; omega) BV
     clear CV FV hlt
     go_wp2_with fail
     go_loopw [45] (fun i wx => ∃ k : Nat, k ≤ j ∧ i = .int .i64 k ∧ Kept [] wr wx ∧ Hid (∀ x, x < k → Sp.cnt ns j (gn ns x).f = 3)) (fun i _ => j - (intOf i).toNat)
     case atStart => exact ⟨0, Nat.zero_le _, rfl, Kept.refl _ _, Lib.hid (fun x hx => absurd hx (by omega))⟩
     case round =>
       rename World => wx
       obtain ⟨k, hk, rfl, hkx, hall⟩ := hrel
       have hbx : Below w.heap.size w wx := hkx.below hbr hbr.size (by simp)
       have mqx := Lib.hid (mq.out.kept hkx (by simp))
       by_cases hlt : k < j
       · obtain ⟨b, o, rfl, hl, hc⟩ := HN.out.2 (by omega)
         obtain ⟨h1, h2, h3⟩ := hc k hlt
         clear hc
         have hwf := HWF.out k hlt
         obtain ⟨nf, nk, ni, en⟩ : ∃ nf nk ni, gn ns k = ⟨nf, nk, ni⟩ := ⟨_, _, _, rfl⟩
         rw [en] at h1 h2 h3 hwf
         have r1 : wx.cell? ⟨b, o + k * 3, none⟩ = some (.int .i64 nf) := (hbx.cell (p := ⟨b, _, none⟩) hl).trans h1
         have r2 : wx.cell? ⟨b, o + k * 3 + 1, none⟩ = some (.int .i64 nk) := (hbx.cell (p := ⟨b, _, none⟩) hl).trans h2
         have r3 : wx.cell? ⟨b, o + k * 3 + 2, none⟩ = some (.int .i64 ni) := (hbx.cell (p := ⟨b, _, none⟩) hl).trans h3
         have hl' : b < wx.heap.size := Nat.lt_of_lt_of_le hl hbx.size
         have HKY := Lib.hid (Tryz.keyInt nf hwf)
         obtain ⟨c, hc⟩ : ∃ c, Sp.cnt ns j nf = c := ⟨_, rfl⟩
         have HCQ := Lib.hid (show mv (Sp.cnt ns j) (.int .i64 nf) = .int .i64 c from congrArg _ hc)
         have HC := Lib.hid (show Sp.cnt ns j (gn ns k).f = c by rw [en]; exact hc)
         clear en h1 h2 h3 hl hc hwf
         go_upto_region 16 with fail
         refine wp_named (fun X => ∃ g, wx.heap.size = g ∧ Blk X g [.int .i64 nf, .int .i64 nk, .int .i64 ni] ∧ Kept [] wx X) ⟨_, rfl, Blk.new _ _ _ _ rfl, (Kept.refl _ _).alloc _⟩ ?_
         rintro X ⟨g, eg, Bg, hkX⟩
         rw [eg]
         have ⟨LG, CG, FG⟩ := Bg
         have mqy := Lib.hid (mqx.out.kept hkX (by simp))
         have hkw : Kept [] wr X := keptTrans hkx hkX
         have hbX := hkX.below hbx hbx.size (by simp)
         clear r1 r2 r3 hl' eg hkX mqx
         by_cases hc3 : c = 3
         · have c3' : (c != 3) = false := by simpa using hc3
           have hfin := Lib.hid (show ∀ x, x < k + 1 → Sp.cnt ns j (gn ns x).f = 3 from fun x hx => by
             rcases Nat.lt_or_ge x k with h9 | h9
             · exact hall.out x h9
             · obtain rfl : x = k := by omega
               rw [HC.out, hc3])
           clear hc3
           go_wp2_with (first
             | (at_lookup; refine wpList_look_int _ rfl _ _ 209 rfl 3 3 Tryz.lawInt Tryz.mapII Tryz.undInt (Tryz.zeroInt _) q j _ rfl mqy.out (.int .i64 nf) _ rfl HKY.out c HCQ.out ?_)
             | go_in)
           exact ⟨⟨k + 1, by omega, by go_num, hkw, hfin⟩, by simp [intOf]; omega⟩
         · have c3' : (c != 3) = true := by simpa using hc3
           have hfin := Lib.hid (show ∃ x, x < j ∧ Sp.cnt ns j (gn ns x).f ≠ 3 from ⟨k, hlt, by rw [HC.out]; exact hc3⟩)
           clear hc3
           go_wp2_with (first
             | (at_lookup; refine wpList_look_int _ rfl _ _ 209 rfl 3 3 Tryz.lawInt Tryz.mapII Tryz.undInt (Tryz.zeroInt _) q j _ rfl mqy.out (.int .i64 nf) _ rfl HKY.out c HCQ.out ?_)
             | go_in)
           go_ret2
           exact ⟨hbX, Or.inl ⟨hfin.out, rfl⟩⟩
       · obtain rfl : k = j := by omega
         clear hlt
         have mpx := Lib.hid (mp.out.kept hkx (by simp))
         go_wp2_with fail
         go_ret2
         exact ⟨hbx, Or.inr ⟨hall.out, p, hpw, rfl, mpx.out⟩⟩
end Go.Proofs.YtooejoajojanjaaGreatDoor
namespace Go.Df
open Go.RowKit Go.Maps Go.ChangeMaps
theorem wpList_wanted {P : Program} {w : World} {ops : Array Oper} {rest : List Oper} {o : Oper} {a : Act} {Q : Exit → Act → World → Prop} (hw : Region.wanted o (yielded ops a.tmps) = true)
   (h : ∀ K : Act → World → Prop, (∀ a w, wpList P ops Q rest a w → K a w) → o.wp P a w K Q) : wpList P ops Q (o :: rest) a w :=
 wpList_step fun K hK => by simp only [hw, if_true]; exact h K hK
theorem wpList_look_intg {P : Program} (w : World) {ops : Array Oper} {rest : List Oper} {o : Oper} {a : Act} {Q : Exit → Act → World → Prop}
   (hg : Region.wanted o (yielded ops a.tmps) = true) (m x : Operand) (t : TypeId) (hop : o.op = Op.lookup t m x false)
   (k e : TypeId) (K : Maps.Keyed P k) (ht : P.underlying t = some (.map k e)) (he : P.underlying e = some (.int .i64)) (hz : (zeroValue e).run P w = .ok (.int .i64 0) w) (b n : Nat) (f : Value → Lit)
   (hm : a.eval m = .map (some b)) (hown : MapV P k e (.int .i64 0) w b n f) (key : Value) (kl : Lit) (hx : a.eval x = key) (hkey : keyOf P k key = some kl) (c : Int) (hc : f key = .int .i64 c)
   (hK : wpList P ops Q rest (a.put o.dst (.int .i64 c)) w) : wpList P ops Q (o :: rest) a w := by
 refine wpList_wanted hg fun K' hK' => ?_
 have hrun := hown.look_int K ht he hz hkey hc
 unfold Oper.wp
 simp [execOp, hop, hm, hx, hrun, Result.andThen]
 exact hK' _ _ hK
theorem wpList_look_boolg {P : Program} (w : World) {ops : Array Oper} {rest : List Oper} {o : Oper} {a : Act} {Q : Exit → Act → World → Prop}
   (hg : Region.wanted o (yielded ops a.tmps) = true) (m x : Operand) (t : TypeId) (hop : o.op = Op.lookup t m x false)
   (k e : TypeId) (K : Maps.Keyed P k) (ht : P.underlying t = some (.map k e)) (he : P.underlying e = some .bool) (hz : (zeroValue e).run P w = .ok (.bool false) w) (b n : Nat) (f : Value → Lit)
   (hm : a.eval m = .map (some b)) (hown : MapV P k e (.bool false) w b n f) (key : Value) (kl : Lit) (hx : a.eval x = key) (hkey : keyOf P k key = some kl) (c : Bool) (hc : f key = .bool c)
   (hK : wpList P ops Q rest (a.put o.dst (.bool c)) w) : wpList P ops Q (o :: rest) a w := by
 refine wpList_wanted hg fun K' hK' => ?_
 have hrun := hown.look_bool K ht he hz hkey hc
 unfold Oper.wp
 simp [execOp, hop, hm, hx, hrun, Result.andThen]
 exact hK' _ _ hK
namespace Sp
def inB (x : Int) (n : Nat) : Bool := decide (0 ≤ x) && decide (x < n)
theorem inB_true {x : Int} {n : Nat} (h : inB x n = true) : 0 ≤ x ∧ x < n := by simpa [inB] using h
theorem inB_false {x : Int} {n : Nat} (h : inB x n = false) : x < 0 ∨ (n : Int) ≤ x := by
 simp [inB] at h
 omega
def fieldErr (N : Nat) (ea eb ek ec : Int) : Int :=
 if ea < 0 ∨ (N : Int) ≤ ea ∨ eb < 0 ∨ (N : Int) ≤ eb then 4
 else if ek < 1 ∨ 5 < ek then 12
 else if ((ek = 1 ∨ ek = 5) ∧ ec ≠ -1) ∨ (ek ≠ 1 ∧ ek ≠ 5 ∧ (ec < 0 ∨ (N : Int) ≤ ec)) then 4 else 0
theorem ite_split (p1 p2 p3 : Prop) [Decidable p1] [Decidable p2] [Decidable p3] (r : Int) : (if p1 then 4 else if p2 then 12 else if p3 then 4 else r) =
   if (if p1 then (4 : Int) else if p2 then 12 else if p3 then 4 else 0) ≠ 0 then (if p1 then 4 else if p2 then 12 else if p3 then 4 else 0) else r := by
 by_cases h1 : p1 <;> by_cases h2 : p2 <;> by_cases h3 : p3 <;> simp [h1, h2, h3]
theorem edge_field (ns : List Nd) (es : List Ed) (j : Nat) : edgeErr ns es j =
   if fieldErr ns.length (ge es j).a (ge es j).b (ge es j).k (ge es j).c ≠ 0 then fieldErr ns.length (ge es j).a (ge es j).b (ge es j).k (ge es j).c
   else if 0 < j ∧ lessE (ge es (j - 1)) (ge es j) = false then 13
   else if fitsB ns es (ge es j) = false then 20 else 0 := by
 unfold edgeErr fieldErr
 exact ite_split _ _ _ _
def matchN (ek ec ea : Int) (fr td cl : Nd) (cb : Bool) : Bool :=
 if ek = 1 then decide (fr.f = td.f) && (decide (fr.k = 1) || decide (fr.k = 2)) && decide (td.k ≠ 1)
 else if ek = 5 then decide (fr.f = td.f) && decide (fr.k = 2) && decide (td.k ≠ 1)
 else if ek = 2 then decide (fr.k = 2) && decide (ec = ea) && decide (td.k = 1)
 else decide (fr.k = if ek = 4 then 4 else 3) && decide (cl.k = 2) && cb && decide (td.f = cl.f) && decide (td.k ≠ 1)
theorem match_fits {ek ec ea : Int} {fr td cl : Nd} {cb : Bool} (h1 : 1 ≤ fr.k ∧ fr.k ≤ 4) (h2 : 1 ≤ ek ∧ ek ≤ 5) : matchN ek ec ea fr td cl cb = fitsN ek ec ea fr td cl cb := by
 have h3 : ek = 1 ∨ ek = 2 ∨ ek = 3 ∨ ek = 4 ∨ ek = 5 := by omega
 have h4 : fr.k = 1 ∨ fr.k = 2 ∨ fr.k = 3 ∨ fr.k = 4 := by omega
 unfold matchN fitsN
 rcases h3 with rfl | rfl | rfl | rfl | rfl <;> rcases h4 with h | h | h | h <;> simp [h]
end Sp
end Go.Df
namespace Go.Proofs.YtooejoajojanjaaGreatDoor
open Go.RowKit Go.Df
attribute [local go_sem ↓] Go.wp_at_zero Go.wp_at_succ
theorem is_any (b : Nat) (A1 A2 : Option Addr) (n1 c1 n2 c2 : Nat) (mn x : Int) (v : Bool) (hv : Sp.inB x n1 = v) (w : World) (hb : Blk w b [.slice A1 n1 c1, .slice A2 n2 c2, .int .i64 mn]) :
   Calls Tryz.prog 164 #[.int .i64 x, .pointer (some ⟨b, 0, none⟩)] w fun e w' => e = .returned (.bool v) ∧ w' = w := by
 have ⟨L, C, F⟩ := hb
 by_cases h1 : 0 ≤ x
 · by_cases h2 : x < (n1 : Int)
   · obtain rfl : v = true := by rw [← hv]; simp [Sp.inB, h1, h2]
     clear hv
     go_enter Tryz.func164, Tryz.ntmps164
     go_wp2_with fail
     go_ret
     exact ⟨rfl, rfl⟩
   · obtain rfl : v = false := by rw [← hv]; simp [Sp.inB, h2]
     clear hv
     go_enter Tryz.func164, Tryz.ntmps164
     go_wp2_with fail
     go_ret
     exact ⟨rfl, rfl⟩
 · obtain rfl : v = false := by rw [← hv]; simp [Sp.inB, h1]
   clear hv
   go_enter Tryz.func164, Tryz.ntmps164
   go_wp2_with fail
   go_ret
   exact ⟨rfl, rfl⟩
set_option maxRecDepth 100000 in
set_option maxHeartbeats 2000000 in
theorem check_any (A1 A2 : Option Addr) (n1 c1 n2 c2 : Nat) (mn ea eb ek ec : Int) (w : World) :
   Calls Tryz.prog 123 #[.agg #[.slice A1 n1 c1, .slice A2 n2 c2, .int .i64 mn], .agg #[.int .i64 ea, .int .i64 eb, .int .i64 ek, .int .i64 ec]] w fun e w' => e = .returned (.int .i64 (Sp.fieldErr n1 ea eb ek ec)) ∧ Below w.heap.size w w' := by
 go_enter Tryz.func123, Tryz.ntmps123
 go_upto_region 1 with fail
 refine wp_named (fun W => ∃ b0 b1, w.heap.size = b0 ∧ w.heap.size + 1 = b1 ∧ Blk W b0 [.slice A1 n1 c1, .slice A2 n2 c2, .int .i64 mn] ∧ Blk W b1 [.int .i64 ea, .int .i64 eb, .int .i64 ek, .int .i64 ec] ∧ Below w.heap.size w W) ⟨_, _, rfl, rfl, ?_, ?_, ?_⟩ ?_
 · exact (Blk.new _ _ _ _ (by first | rfl | simp)).alloc _
 · exact kbn
 · go_grown
 rintro W ⟨b0, b1, e0, e1, B0, B1, hB⟩
 rw [e1, e0]
 have G0 : w.heap.size ≤ b0 := by omega
 have n01 : b0 ≠ b1 := by omega
 have G1 : w.heap.size ≤ b1 := by omega
 have n10 : b1 ≠ b0 := by omega
 clear e0 e1
 have ⟨L0, C0, F0⟩ := B0
 have ⟨L1, C1, F1⟩ := B1
 have arm : True := trivial
 cases i1 : Sp.inB ea n1 with
 | false =>
   have g1 := Sp.inB_false i1
   go_wp2_with (first | (go_at_call 164; with_reducible refine (is_any _ _ _ _ _ _ _ _ ea false (by assumption) _ B0).mono ?_; rintro e w9 ⟨rfl, rfl⟩))
   go_ret
   exact ⟨ret_int (by unfold Sp.fieldErr; (repeat' split) <;> first | rfl | omega | (exfalso; omega)), hB⟩
 | true =>
 have g1 := Sp.inB_true i1
 cases i2 : Sp.inB eb n1 with
 | false =>
   have g2 := Sp.inB_false i2
   go_wp2_with (first | (go_at_call 164; with_reducible refine (is_any _ _ _ _ _ _ _ _ ea true (by assumption) _ B0).mono ?_; rintro e w9 ⟨rfl, rfl⟩) | (go_at_call 164; with_reducible refine (is_any _ _ _ _ _ _ _ _ eb false (by assumption) _ B0).mono ?_; rintro e w9 ⟨rfl, rfl⟩))
   go_ret
   exact ⟨ret_int (by unfold Sp.fieldErr; (repeat' split) <;> first | rfl | omega | (exfalso; omega)), hB⟩
 | true =>
 have g2 := Sp.inB_true i2
 by_cases k1 : ek = 1
 · have t1 : (ek == 1) = true := by simp; omega
   by_cases c1 : ec = -1
   · have c1' : (ec != -1) = false := by simpa using c1
     have HC := Lib.hid c1
     have HK := Lib.hid k1
     clear c1 k1
     go_wp2_with (first | (go_at_call 164; with_reducible refine (is_any _ _ _ _ _ _ _ _ ea true (by assumption) _ B0).mono ?_; rintro e w9 ⟨rfl, rfl⟩) | (go_at_call 164; with_reducible refine (is_any _ _ _ _ _ _ _ _ eb true (by assumption) _ B0).mono ?_; rintro e w9 ⟨rfl, rfl⟩))
     go_ret
     exact ⟨ret_int (by have := HC.out; have := HK.out; unfold Sp.fieldErr; (repeat' split) <;> first | rfl | omega | (exfalso; omega)), hB⟩
   · have c1' : (ec != -1) = true := by simpa using c1
     have HK := Lib.hid k1
     clear k1
     go_wp2_with (first | (go_at_call 164; with_reducible refine (is_any _ _ _ _ _ _ _ _ ea true (by assumption) _ B0).mono ?_; rintro e w9 ⟨rfl, rfl⟩) | (go_at_call 164; with_reducible refine (is_any _ _ _ _ _ _ _ _ eb true (by assumption) _ B0).mono ?_; rintro e w9 ⟨rfl, rfl⟩))
     go_ret
     exact ⟨ret_int (by have := HK.out; unfold Sp.fieldErr; (repeat' split) <;> first | rfl | omega | (exfalso; omega)), hB⟩
 · have u1 : True := trivial
   by_cases k5 : ek = 5
   · have t1 : (ek == 1) = false := by simp; omega
     have t5 : (ek == 5) = true := by simp; omega
     by_cases c1 : ec = -1
     · have c1' : (ec != -1) = false := by simpa using c1
       have HC := Lib.hid c1
       have HK := Lib.hid k5
       clear c1 k5
       go_wp2_with (first | (go_at_call 164; with_reducible refine (is_any _ _ _ _ _ _ _ _ ea true (by assumption) _ B0).mono ?_; rintro e w9 ⟨rfl, rfl⟩) | (go_at_call 164; with_reducible refine (is_any _ _ _ _ _ _ _ _ eb true (by assumption) _ B0).mono ?_; rintro e w9 ⟨rfl, rfl⟩))
       go_ret
       exact ⟨ret_int (by have := HC.out; have := HK.out; unfold Sp.fieldErr; (repeat' split) <;> first | rfl | omega | (exfalso; omega)), hB⟩
     · have c1' : (ec != -1) = true := by simpa using c1
       have HK := Lib.hid k5
       clear k5
       go_wp2_with (first | (go_at_call 164; with_reducible refine (is_any _ _ _ _ _ _ _ _ ea true (by assumption) _ B0).mono ?_; rintro e w9 ⟨rfl, rfl⟩) | (go_at_call 164; with_reducible refine (is_any _ _ _ _ _ _ _ _ eb true (by assumption) _ B0).mono ?_; rintro e w9 ⟨rfl, rfl⟩))
       go_ret
       exact ⟨ret_int (by have := HK.out; unfold Sp.fieldErr; (repeat' split) <;> first | rfl | omega | (exfalso; omega)), hB⟩
   · have u5 : True := trivial
     by_cases k2 : ek = 2
     · have t1 : (ek == 1) = false := by simp; omega
       have t5 : (ek == 5) = false := by simp; omega
       have t2 : (ek == 2) = true := by simp; omega
       cases i3 : Sp.inB ec n1 with
       | true =>
         have g3 := Sp.inB_true i3
         have HK := Lib.hid k2
         clear k2
         go_wp2_with (first | (go_at_call 164; with_reducible refine (is_any _ _ _ _ _ _ _ _ ea true (by assumption) _ B0).mono ?_; rintro e w9 ⟨rfl, rfl⟩) | (go_at_call 164; with_reducible refine (is_any _ _ _ _ _ _ _ _ eb true (by assumption) _ B0).mono ?_; rintro e w9 ⟨rfl, rfl⟩) | (go_at_call 164; with_reducible refine (is_any _ _ _ _ _ _ _ _ ec true (by assumption) _ B0).mono ?_; rintro e w9 ⟨rfl, rfl⟩))
         go_ret
         exact ⟨ret_int (by have := HK.out; unfold Sp.fieldErr; (repeat' split) <;> first | rfl | omega | (exfalso; omega)), hB⟩
       | false =>
         have g3 := Sp.inB_false i3
         have HK := Lib.hid k2
         clear k2
         go_wp2_with (first | (go_at_call 164; with_reducible refine (is_any _ _ _ _ _ _ _ _ ea true (by assumption) _ B0).mono ?_; rintro e w9 ⟨rfl, rfl⟩) | (go_at_call 164; with_reducible refine (is_any _ _ _ _ _ _ _ _ eb true (by assumption) _ B0).mono ?_; rintro e w9 ⟨rfl, rfl⟩) | (go_at_call 164; with_reducible refine (is_any _ _ _ _ _ _ _ _ ec false (by assumption) _ B0).mono ?_; rintro e w9 ⟨rfl, rfl⟩))
         go_ret
         exact ⟨ret_int (by have := HK.out; unfold Sp.fieldErr; (repeat' split) <;> first | rfl | omega | (exfalso; omega)), hB⟩
     · have u2 : True := trivial
       by_cases k3 : ek = 3
       · have t1 : (ek == 1) = false := by simp; omega
         have t5 : (ek == 5) = false := by simp; omega
         have t2 : (ek == 2) = false := by simp; omega
         have t3 : (ek == 3) = true := by simp; omega
         cases i3 : Sp.inB ec n1 with
         | true =>
           have g3 := Sp.inB_true i3
           have HK := Lib.hid k3
           clear k3
           go_wp2_with (first | (go_at_call 164; with_reducible refine (is_any _ _ _ _ _ _ _ _ ea true (by assumption) _ B0).mono ?_; rintro e w9 ⟨rfl, rfl⟩) | (go_at_call 164; with_reducible refine (is_any _ _ _ _ _ _ _ _ eb true (by assumption) _ B0).mono ?_; rintro e w9 ⟨rfl, rfl⟩) | (go_at_call 164; with_reducible refine (is_any _ _ _ _ _ _ _ _ ec true (by assumption) _ B0).mono ?_; rintro e w9 ⟨rfl, rfl⟩))
           go_ret
           exact ⟨ret_int (by have := HK.out; unfold Sp.fieldErr; (repeat' split) <;> first | rfl | omega | (exfalso; omega)), hB⟩
         | false =>
           have g3 := Sp.inB_false i3
           have HK := Lib.hid k3
           clear k3
           go_wp2_with (first | (go_at_call 164; with_reducible refine (is_any _ _ _ _ _ _ _ _ ea true (by assumption) _ B0).mono ?_; rintro e w9 ⟨rfl, rfl⟩) | (go_at_call 164; with_reducible refine (is_any _ _ _ _ _ _ _ _ eb true (by assumption) _ B0).mono ?_; rintro e w9 ⟨rfl, rfl⟩) | (go_at_call 164; with_reducible refine (is_any _ _ _ _ _ _ _ _ ec false (by assumption) _ B0).mono ?_; rintro e w9 ⟨rfl, rfl⟩))
           go_ret
           exact ⟨ret_int (by have := HK.out; unfold Sp.fieldErr; (repeat' split) <;> first | rfl | omega | (exfalso; omega)), hB⟩
       · have u3 : True := trivial
         by_cases k4 : ek = 4
         · have t1 : (ek == 1) = false := by simp; omega
           have t5 : (ek == 5) = false := by simp; omega
           have t2 : (ek == 2) = false := by simp; omega
           have t3 : (ek == 3) = false := by simp; omega
           have t4 : (ek == 4) = true := by simp; omega
           cases i3 : Sp.inB ec n1 with
           | true =>
             have g3 := Sp.inB_true i3
             have HK := Lib.hid k4
             clear k4
             go_wp2_with (first | (go_at_call 164; with_reducible refine (is_any _ _ _ _ _ _ _ _ ea true (by assumption) _ B0).mono ?_; rintro e w9 ⟨rfl, rfl⟩) | (go_at_call 164; with_reducible refine (is_any _ _ _ _ _ _ _ _ eb true (by assumption) _ B0).mono ?_; rintro e w9 ⟨rfl, rfl⟩) | (go_at_call 164; with_reducible refine (is_any _ _ _ _ _ _ _ _ ec true (by assumption) _ B0).mono ?_; rintro e w9 ⟨rfl, rfl⟩))
             go_ret
             exact ⟨ret_int (by have := HK.out; unfold Sp.fieldErr; (repeat' split) <;> first | rfl | omega | (exfalso; omega)), hB⟩
           | false =>
             have g3 := Sp.inB_false i3
             have HK := Lib.hid k4
             clear k4
             go_wp2_with (first | (go_at_call 164; with_reducible refine (is_any _ _ _ _ _ _ _ _ ea true (by assumption) _ B0).mono ?_; rintro e w9 ⟨rfl, rfl⟩) | (go_at_call 164; with_reducible refine (is_any _ _ _ _ _ _ _ _ eb true (by assumption) _ B0).mono ?_; rintro e w9 ⟨rfl, rfl⟩) | (go_at_call 164; with_reducible refine (is_any _ _ _ _ _ _ _ _ ec false (by assumption) _ B0).mono ?_; rintro e w9 ⟨rfl, rfl⟩))
             go_ret
             exact ⟨ret_int (by have := HK.out; unfold Sp.fieldErr; (repeat' split) <;> first | rfl | omega | (exfalso; omega)), hB⟩
         · have u4 : True := trivial
           have t1 : (ek == 1) = false := by simp; omega
           have t5 : (ek == 5) = false := by simp; omega
           have t2 : (ek == 2) = false := by simp; omega
           have t3 : (ek == 3) = false := by simp; omega
           have t4 : (ek == 4) = false := by simp; omega
           go_wp2_with (first | (go_at_call 164; with_reducible refine (is_any _ _ _ _ _ _ _ _ ea true (by assumption) _ B0).mono ?_; rintro e w9 ⟨rfl, rfl⟩) | (go_at_call 164; with_reducible refine (is_any _ _ _ _ _ _ _ _ eb true (by assumption) _ B0).mono ?_; rintro e w9 ⟨rfl, rfl⟩))
           go_ret
           exact ⟨ret_int (by unfold Sp.fieldErr; (repeat' split) <;> first | rfl | omega | (exfalso; omega)), hB⟩
end Go.Proofs.YtooejoajojanjaaGreatDoor
