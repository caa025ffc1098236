/- Texts: Le Oj Pj Pm Po Pc Lf Ok Ib. -/
import Derived.Test.YtooejoajojanjaaGreatDoorSx01
import Derived.StillTail
import Derived.Test.YtooejoajojanjaaGreatDoorSx02
import Derived.Lib.Split
import Derived.Lib.SplitLaws
namespace Go.Df
open Go
section
variable {P : Program} {ops : Array Oper} {Q : Exit → Act → World → Prop} {md : Region.Mode} {S : World → Prop} {n : Nat}
/-- Whatever order is picked from here on; S holds behind every operation but number n. -/
def wpAnyE (P : Program) (md : Region.Mode) (ops : Array Oper) (n : Nat) (Q : Exit → Act → World → Prop) (S : World → Prop) : Nat → Array Bool → Act → World → Prop
  | 0, listed, a, w => Region.ready md ops listed = [] ∧ Q .normal a w
  | fuel + 1, listed, a, w =>
    (Region.ready md ops listed = [] → Q .normal a w) ∧
    ∀ i ∈ Region.ready md ops listed, wpOp P ops Q i (fun a' w' => (i < n → S w') ∧ wpAnyE P md ops n Q S fuel (listed.setIfInBounds i true) a' w') a w
theorem wpAny_of_E : ∀ (fuel : Nat) (listed : Array Bool) (a : Act) (w : World), wpAnyE P md ops n Q S fuel listed a w → wpAny P md ops Q fuel listed a w
  | 0, _, _, _, h => h
  | fuel + 1, _, _, _, h => ⟨h.1, fun i hi => wpOp_mono (fun a' w' h' => wpAny_of_E fuel _ a' w' h'.2) (h.2 i hi)⟩
/-- Every operation but number n is waited for by a later one; n is the last. -/
def lastB (md : Region.Mode) (ops : Array Oper) (n : Nat) : Bool := Region.sinkB md ops n && Region.chainB md ops n && decide (n < ops.size)
theorem wpAnyE_first {i : Nat} {oi : Oper} {v : Value} (hi : ops[i]? = some oi) (hsel : ∀ (j : Nat) (o : Oper) cs b, ops[j]? = some o → o.op ≠ .select cs b)
    (hl : lastB md ops n = true) (hin : i < n)
    (hQ : ∀ c a w, Q (.panic c) (a.put oi.dst v) w → Q (.panic c) a w) :
    ∀ (fuel : Nat) (listed : Array Bool) (a : Act) (w : World), HeadInv md ops n listed →
      (∀ j oj, ops[j]? = some oj → j ≠ i → listed.getD j true = false → (∀ e ∈ oj.after, Region.binds md e = true → e.on ≠ i) → oi.apart ops oj = true) →
      i ∈ Region.ready md ops listed → YieldsIf P ops S oi v a → S w →
      wpAnyE P md ops n Q S fuel (listed.setIfInBounds i true) (a.put oi.dst v) w → wpAnyE P md ops n Q S (fuel + 1) listed a w := by
  simp only [lastB, Bool.and_eq_true, decide_eq_true_eq] at hl
  obtain ⟨⟨hs, hc⟩, hn⟩ := hl
  intro fuel
  induction fuel with
  | zero =>
    intro listed a w _ _ hr hy hS H
    refine ⟨fun h => (by rw [h] at hr; cases hr), fun j hj => ?_⟩
    by_cases hji : j = i
    · subst hji; exact hy.wpOp hi hS ⟨fun _ => hS, H⟩
    · have := ready_mono hj hji
      rw [H.1] at this
      cases this
  | succ fuel ih =>
    intro listed a w inv hfree hr hy hS H
    refine ⟨fun h => (by rw [h] at hr; cases hr), fun j hj => ?_⟩
    by_cases hji : j = i
    · subst hji; exact hy.wpOp hi hS ⟨fun _ => hS, H⟩
    · have hun := (mem_ready.1 hr).1
      have hjn : j < n := by
        rcases Nat.lt_or_ge j n with h | h
        · exact h
        · exact absurd hj (tail_waits hs hc hn inv _ i rfl hin hun j h)
      have h1 := H.2 j (ready_mono hj hji)
      obtain ⟨hjun, oj, hoj, hall⟩ := mem_ready.1 hj
      have hnot : ∀ e ∈ oj.after, Region.binds md e = true → e.on ≠ i := fun e he hb heq => by
        have h1 := hall e he hb
        rw [heq, getD_both hun] at h1
        cases h1
      have h2 := wpOp_putIf hoj (hfree j oj hoj hji hjun hnot) (fun cs b => hsel i oi cs b hi) (fun cs b => hsel j oj cs b hoj) hQ hy h1
      have hfree' : ∀ k ok, ops[k]? = some ok → k ≠ i → (listed.setIfInBounds j true).getD k true = false →
          (∀ e ∈ ok.after, Region.binds md e = true → e.on ≠ i) → oi.apart ops ok = true := fun k ok hk hki hun hno => by
        refine hfree k ok hk hki ?_ hno
        by_cases hjk : j = k
        · subst hjk; exact hjun
        · rw [getD_set_ne true hjk] at hun; exact hun
      refine wpOp_mono (fun a' w' h3 => ⟨fun _ => h3.2.1 hjn, ih (listed.setIfInBounds j true) a' w' (inv.set hj hjn) hfree' (ready_mono hr (Ne.symm hji)) h3.1 (h3.2.1 hjn) ?_⟩) h2
      rw [Array.setIfInBounds_comm _ _ hji]
      exact h3.2.2
/-- The same, for a state that the region itself can reach. -/
def WE (P : Program) (md : Region.Mode) (ops : Array Oper) (n : Nat) (Q : Exit → Act → World → Prop) (S : World → Prop) (fuel : Nat) (listed : Array Bool) (a : Act) (w : World) : Prop :=
  HeadInv md ops n listed → wpAnyE P md ops n Q S fuel listed a w
theorem get_drop {l : List Oper} {i : Nat} {oi : Oper} {post : List Oper} (hd : l.drop i = oi :: post) : (l.toArray)[i]? = some oi := by
  have h : (l.drop i)[0]? = some oi := by rw [hd]; rfl
  rw [List.getElem?_drop] at h
  simpa using h
/-- Take number i first. -/
theorem WE_take {l : List Oper} (i : Nat) {oi : Oper} {post : List Oper} {v : Value} {fuel : Nat} {listed : Array Bool} {a : Act} {w : World} (hd : l.drop i = oi :: post)
    (hl : (lastB md l.toArray n && Region.noSelect l.toArray && Region.free md l.toArray listed i && (Region.ready md l.toArray listed).contains i && decide (i < n)) = true)
    (hQ : ∀ c a w, Q (.panic c) (a.put oi.dst v) w → Q (.panic c) a w) (hy : YieldsIf P l.toArray S oi v a) (hS : S w)
    (h : WE P md l.toArray n Q S fuel (listed.setIfInBounds i true) (a.put oi.dst v) w) : WE P md l.toArray n Q S (fuel + 1) listed a w := fun inv => by
  simp only [Bool.and_eq_true, decide_eq_true_eq] at hl
  obtain ⟨⟨⟨⟨hl, hs⟩, hf⟩, hr⟩, hin⟩ := hl
  have hi := get_drop hd
  have hr' : i ∈ Region.ready md l.toArray listed := by simpa using hr
  exact wpAnyE_first hi (Region.noSelect_spec hs) hl hin hQ fuel listed a w inv (Region.free_spec hi hf) hr' hy hS (h (inv.set hr' hin))
/-- Number i alone can come up; behind it S is shown anew. -/
theorem WE_step {l : List Oper} (i : Nat) {o : Oper} {post : List Oper} {fuel : Nat} {listed : Array Bool} {a : Act} {w : World} (hd : l.drop i = o :: post)
    (hr : (decide (Region.ready md l.toArray listed = [i]) && decide (i < n)) = true)
    (h : ∀ K' : Act → World → Prop, Shut (∀ a w, S w → (S w → WE P md l.toArray n Q S fuel (listed.setIfInBounds i true) a w) → K' a w) → if Region.wanted o (yielded l.toArray a.tmps) = true then Oper.wp P o a w K' Q else K' (a.put o.dst undef) w) :
    WE P md l.toArray n Q S (fuel + 1) listed a w := fun inv => by
  simp only [Bool.and_eq_true, decide_eq_true_eq] at hr
  obtain ⟨hr, hin⟩ := hr
  refine ⟨fun h0 => (by rw [hr] at h0; cases h0), fun j hj => ?_⟩
  obtain rfl : j = i := by rw [hr] at hj; simpa using hj
  exact wpOp_step (get_drop hd) (fun K' hK => h K' (fun a w hS hW => hK a w ⟨fun _ => hS, hW hS (inv.set hj hin)⟩))
/-- Number n, the last. -/
theorem WE_last {l : List Oper} {o : Oper} {post : List Oper} {fuel : Nat} {listed : Array Bool} {a : Act} {w : World} (hd : l.drop n = o :: post)
    (hr : (decide (Region.ready md l.toArray listed = [n]) && decide (Region.ready md l.toArray (listed.setIfInBounds n true) = [])) = true)
    (h : ∀ K' : Act → World → Prop, Shut (∀ a w, Q .normal a w → K' a w) → if Region.wanted o (yielded l.toArray a.tmps) = true then Oper.wp P o a w K' Q else K' (a.put o.dst undef) w) :
    WE P md l.toArray n Q S (fuel + 1) listed a w := fun _ => by
  simp only [Bool.and_eq_true, decide_eq_true_eq] at hr
  obtain ⟨hr, hr2⟩ := hr
  refine ⟨fun h0 => (by rw [hr] at h0; cases h0), fun j hj => ?_⟩
  obtain rfl : j = n := by rw [hr] at hj; simpa using hj
  refine wpOp_step (get_drop hd) (fun K' hK => h K' (fun a w hW => hK a w ⟨fun h => absurd h (Nat.lt_irrefl _), ?_⟩))
  cases fuel with
  | zero => exact ⟨hr2, hW⟩
  | succ f => exact ⟨fun _ => hW, fun k hk => by rw [hr2] at hk; cases hk⟩
/-- The beginning. -/
theorem wp_region_E {id : Nat} {a : Act} {w : World} (n : Nat) (S : World → Prop) (hm : P.follows .mixedOrders = true) (hS : S w.drew)
    (h : S w.drew → WE P .any ops n Q S ops.size (Array.replicate ops.size false) a w.drew) : (Code.region id ops true).wp P Q a w := by
  refine wp_region_any hm (wpAny_of_E (n := n) (S := S) _ _ _ _ (h hS ⟨by simp, fun j oj _ hl => (by rw [getD_replicate_false] at hl; cases hl), fun t _ ht => getD_in (by simpa using ht) (getD_replicate_false _ _)⟩))
end
end Go.Df
namespace Go.Df
open Go.RowKit
theorem own_keptT {X : List Nat} {w w1 : World} {base : Nat} {e : TypeId} {k : Nat} {v : Value} {n : Nat} {xs : List Value} (h : w.ownsRow base e k v n xs) (hk : Kept X w w1) (hX : ∀ g, v.ownBlock = some g → g ∉ X) : w1.ownsRow base e k v n xs := by
  refine ⟨h.1, ?_⟩
  rcases h.2 with h2 | ⟨g, cap, cur, rfl, h3, h4, h5⟩
  · exact .inl h2
  · exact .inr ⟨g, cap, cur, rfl, h3, (hk.block g (Array.getElem?_eq_some_iff.1 h4).1 (hX g rfl)).trans h4, h5⟩
/-- The cells of a row of one's own. -/
theorem own_cellsT {w : World} {base : Nat} {e : TypeId} {k n : Nat} {v : Value} {xs : List Value} (h : w.ownsRow base e k v n xs) (h0 : 0 < n) :
    ∃ g c, v = .slice (some ⟨g, 0, none⟩) n c ∧ base ≤ g ∧ g < w.heap.size ∧ n ≤ c ∧ c ≤ maxLen ∧ (∀ i, i < n * k → w.cell? ⟨g, i, none⟩ = xs[i]?) ∧ ∀ i, w.frozen? ⟨g, i, none⟩ = false := by
  rcases h.2 with ⟨rfl, rfl⟩ | ⟨g, cap, cur, rfl, hb, hh, hnc, hcm, hcs, htk⟩
  · omega
  · refine ⟨g, cap, rfl, hb, ?_, hnc, hcm, fun i hi => ?_, fun i => ?_⟩
    · rcases Nat.lt_or_ge g w.heap.size with h1 | h1
      · exact h1
      · rw [Array.getElem?_eq_none h1] at hh; cases hh
    · rw [← htk, List.getElem?_take_of_lt hi]
      simp [World.cell?, hh]
    · simp [World.frozen?, hh]
/-- What a region that appends to a row of one's own keeps: all but the row; and the cells of two boxes, said at once. -/
abbrev SXu (X : List Nat) (ga gb : Nat) (W w' : World) : Prop := Kept X W w' ∧ (∀ o, w'.cell? ⟨ga, o, none⟩ = W.cell? ⟨ga, o, none⟩) ∧ (∀ o, w'.cell? ⟨gb, o, none⟩ = W.cell? ⟨gb, o, none⟩)
theorem SXu.of {X : List Nat} {ga gb : Nat} {W w' : World} (h : Kept X W w') (ha : ga < W.heap.size) (hb : gb < W.heap.size) (xa : ga ∉ X) (xb : gb ∉ X) : SXu X ga gb W w' := ⟨h, fun o => h.cell ga o ha xa, fun o => h.cell gb o hb xb⟩
namespace If
end If
end Go.Df
namespace Go.Proofs.YtooejoajojanjaaGreatDoor
open Go.RowKit Go.Df Go.Df.If
theorem inti_info : (Tryz.prog.info? 3).map (fun i => (i.zero, i.size, i.bytes)) = some (some (.int .i64 0), 1, 8) := by kernel_rfl
end Go.Proofs.YtooejoajojanjaaGreatDoor
namespace Go.Df
open Go.RowKit
theorem bs_app (a b : List UInt8) : (⟨a.toArray⟩ : ByteArray) ++ ⟨b.toArray⟩ = ⟨(a ++ b).toArray⟩ := by
  apply ByteArray.ext
  simp
theorem dec_lt {m : Nat} (h : m < 10) : Lib.decDigits m = [UInt8.ofNat (48 + m)] := by rw [Lib.decDigits.eq_1, dif_pos h]
theorem dec_ge {m : Nat} (h : ¬ m < 10) : Lib.decDigits m = Lib.decDigits (m / 10) ++ [UInt8.ofNat (48 + m % 10)] := by rw [Lib.decDigits.eq_1, dif_neg h]
theorem dig_cut (d : Nat) (h : d < 10) : ByteArray.extract ⟨#[48, 49, 50, 51, 52, 53, 54, 55, 56, 57]⟩ d (d + 1) = ⟨[UInt8.ofNat (48 + d)].toArray⟩ := by
  have e : ∀ d : Fin 10, ByteArray.extract ⟨#[48, 49, 50, 51, 52, 53, 54, 55, 56, 57]⟩ d.1 (d.1 + 1) = ⟨[UInt8.ofNat (48 + d.1)].toArray⟩ := by decide
  exact e ⟨d, h⟩
end Go.Df
namespace Go.Proofs.YtooejoajojanjaaGreatDoor
open Go.RowKit Go.Df Go.Df.If
attribute [local go_sem ↓] Go.wp_at_zero Go.wp_at_succ
set_option maxRecDepth 100000 in
set_option maxHeartbeats 4000000 in
theorem rdigits_any (n : Nat) (w : World) (hn : n ≤ 9223372036854775807) :
    Calls Tryz.prog 74 #[.int .i64 (n : Nat)] w fun e w' => e = .returned (.string ⟨(Lib.decDigits n).toArray⟩) ∧ Below w.heap.size w w' := by
  go_enter Tryz.func74, Tryz.ntmps74
  go_wp2_with fail
  go_loopw [0, 3] (fun s0 s3 wr => ∃ (m : Nat) (l : Bs), s0 = .int .i64 (m : Nat) ∧ s3 = .string ⟨l.toArray⟩ ∧ m ≤ n ∧ Hid ((l = [] ∧ m = n) ∨ (l ≠ [] ∧ ((m = 0 ∧ l = Lib.decDigits n) ∨ (0 < m ∧ Lib.decDigits m ++ l = Lib.decDigits n)))) ∧ Hid (Kept [] w wr)) (fun s0 s3 _ => (intOf s0).toNat * 2 + (match s3 with | .string b => if b.size = 0 then 1 else 0 | _ => 0))
  case atStart => exact ⟨n, [], rfl, rfl, Nat.le_refl _, Lib.hid (.inl ⟨rfl, rfl⟩), Lib.hid (Kept.refl _ _)⟩
  case round =>
  obtain ⟨m, l, rfl, rfl, hm, HL, HK⟩ := hrel
  -- MARK1
  by_cases hend : m = 0 ∧ l ≠ []
  · obtain ⟨rfl, hl⟩ := hend
    obtain ⟨c, r, rfl⟩ : ∃ c r, l = c :: r := by
      cases l with
      | nil => exact absurd rfl hl
      | cons c r => exact ⟨c, r, rfl⟩
    have HE : Hid (c :: r = Lib.decDigits n) := Lib.hid (by
      rcases HL.out with ⟨h, -⟩ | ⟨-, ⟨-, h⟩ | ⟨h, -⟩⟩
      · cases h
      · exact h
      · exact absurd h (by omega))
    clear hl HL
    -- MARK2
    go_wp2_with fail
    go_ret
    exact ⟨by rw [HE.out]; rfl, HK.out.toBelow⟩
  -- MARK3
  have HDM : Hid (Lib.decDigits m ++ l = Lib.decDigits n) := Lib.hid (by
    rcases HL.out with ⟨h, e⟩ | ⟨h, ⟨e, -⟩ | ⟨-, e⟩⟩
    · rw [h, e, List.append_nil]
    · exact absurd ⟨e, h⟩ hend
    · exact e)
  have HNX : Hid ((m / 10 = 0 ∧ UInt8.ofNat (48 + m % 10) :: l = Lib.decDigits n) ∨ (0 < m / 10 ∧ Lib.decDigits (m / 10) ++ UInt8.ofNat (48 + m % 10) :: l = Lib.decDigits n)) := Lib.hid (by
    have h9 := HDM.out
    by_cases h10 : m < 10
    · rw [dec_lt h10] at h9
      exact .inl ⟨by omega, by rw [Nat.mod_eq_of_lt h10]; exact h9⟩
    · rw [dec_ge h10, List.append_assoc] at h9
      exact .inr ⟨by omega, h9⟩)
  have hlen : l.length ≤ 19 := by
    have h1 := congrArg List.length HDM.out
    have h2 := dec_len (u := n) (k := 18) (by simp; omega)
    rw [List.length_append] at h1
    omega
  have hcat : ¬ (9223372036854775807 < min (m % 10 + 1) 10 - m % 10 + l.length) := by omega
  have HST : Hid ((ByteArray.extract ⟨#[48, 49, 50, 51, 52, 53, 54, 55, 56, 57]⟩ (m % 10) (m % 10 + 1)) ++ ⟨l.toArray⟩ = (⟨(UInt8.ofNat (48 + m % 10) :: l).toArray⟩ : ByteArray)) := Lib.hid (by
    rw [dig_cut _ (Nat.mod_lt _ (by omega)), bs_app]
    rfl)
  have HDV : Hid ((m : Int) / 10 = ((m / 10 : Nat) : Int)) := Lib.hid (by omega)
  by_cases hm0 : 0 < m
  · have g2 : decide ((0 : Int) < (m : Int)) = true := by simp; omega
    clear hend
    go_wp2_with fail
    exact ⟨⟨m / 10, UInt8.ofNat (48 + m % 10) :: l, by rw [HDV.out], by rw [HST.out], by omega, Lib.hid (.inr ⟨by simp, HNX.out⟩), HK⟩, by rw [HST.out, HDV.out]; simp [intOf, ByteArray.size]; omega⟩
  · obtain rfl : l = [] := by
      by_cases h : l = []
      · exact h
      · exact absurd ⟨by omega, h⟩ hend
    have g2 : decide ((0 : Int) < (m : Int)) = false := by simp; omega
    have hm9 : m = 0 := by omega
    have HM9 := Lib.hid hm9
    clear hend hm9 hm0
    go_wp2_with fail
    exact ⟨⟨m / 10, [UInt8.ofNat (48 + m % 10)], by rw [HM9.out]; rfl, by rw [HM9.out]; exact congrArg Value.string (by decide), by omega, Lib.hid (.inr ⟨by simp, HNX.out⟩), HK⟩, by rw [HM9.out]; decide⟩
end Go.Proofs.YtooejoajojanjaaGreatDoor
namespace Go.Df.If
open Go.RowKit Go.Df
/-- The number that a word is, -1 if it is none. -/
def numI (w : Bs) : Int := match numB w with
  | none => -1
  | some n => n
def byt (s : Bs) (i : Nat) : UInt8 := s.getD i 0
theorem bs_get (s : Bs) (i : Nat) (h : i < (⟨s.toArray⟩ : ByteArray).size) : (⟨s.toArray⟩ : ByteArray)[i]'h = byt s i := by
  have h2 : i < s.length := by simpa [ByteArray.size] using h
  unfold byt
  rw [List.getD_eq_getElem?_getD, List.getElem?_eq_getElem h2]
  rfl
theorem bs_get2 (s : Bs) (i : Nat) (h : i < s.length) : s[i]'h = byt s i := by
  unfold byt
  rw [List.getD_eq_getElem?_getD, List.getElem?_eq_getElem h]
  rfl
theorem val_take {s : Bs} {i : Nat} (h : i < s.length) : valB (s.take (i + 1)) = 10 * valB (s.take i) + ((s.getD i 0).toNat - 48) := by
  unfold valB
  rw [List.take_succ_eq_append_getElem h, List.foldl_append, List.getD_eq_getElem?_getD, List.getElem?_eq_getElem h]
  rfl
theorem all_take {s : Bs} {i : Nat} (h : i < s.length) (h1 : (s.take i).all isD = true) (h2 : isD (s.getD i 0) = true) : (s.take (i + 1)).all isD = true := by
  rw [List.take_succ_eq_append_getElem h, List.all_append, h1]
  rw [List.getD_eq_getElem?_getD, List.getElem?_eq_getElem h] at h2
  simpa using h2
theorem all_not {s : Bs} {i : Nat} (h : i < s.length) (h2 : isD (s.getD i 0) = false) : s.all isD = false := by
  rw [List.getD_eq_getElem?_getD, List.getElem?_eq_getElem h] at h2
  rw [List.all_eq_false]
  exact ⟨s[i], List.getElem_mem h, by simpa using h2⟩
theorem val_lt {s : Bs} : ∀ i, i ≤ s.length → (s.take i).all isD = true → valB (s.take i) < 10 ^ i
  | 0, _, _ => by simp [valB]
  | i + 1, hi, h => by
    have h1 : (s.take i).all isD = true := by
      rw [List.take_succ_eq_append_getElem (by omega), List.all_append] at h
      exact (Bool.and_eq_true_iff.1 h).1
    have h2 : isD (s.getD i 0) = true := by
      rw [List.take_succ_eq_append_getElem (by omega), List.all_append] at h
      rw [List.getD_eq_getElem?_getD, List.getElem?_eq_getElem (by omega)]
      simpa using (Bool.and_eq_true_iff.1 h).2
    have h3 := val_lt i (by omega) h1
    have h4 : (s.getD i 0).toNat ≤ 57 := by
      unfold isD at h2
      simp only [Bool.and_eq_true, decide_eq_true_eq] at h2
      exact UInt8.le_iff_toNat_le.1 h2.2
    rw [val_take (by omega), Nat.pow_succ]
    omega
end Go.Df.If
namespace Go.Proofs.YtooejoajojanjaaGreatDoor
open Go.RowKit Go.Df Go.Df.If
attribute [local go_sem ↓] Go.wp_at_zero Go.wp_at_succ
attribute [local go_sem] bs_get bs_get2
set_option maxRecDepth 100000 in
set_option maxHeartbeats 2000000 in
theorem rnum_any (s : Bs) (w : World) (hn : s.length ≤ 9223372036854775807) :
    Calls Tryz.prog 82 #[.string ⟨s.toArray⟩] w fun e w' => e = .returned (.int .i64 (numI s)) ∧ Below w.heap.size w w' := by
  obtain ⟨ln, hln⟩ : ∃ ln, s.length = ln := ⟨_, rfl⟩
  have HLN := Lib.hid hln
  by_cases h0 : ln = 0
  · have hE : Hid (numI s = -1) := by
      show _ = _
      obtain rfl : s = [] := List.eq_nil_of_length_eq_zero (hln.trans h0)
      decide
    have g0 : s.length = 0 := hln.trans h0
    clear HLN hln h0 hn
    go_enter Tryz.func82, Tryz.ntmps82
    go_wp2_with fail
    go_ret
    exact ⟨by rw [hE.out]; rfl, Kept.toBelow (Kept.refl _ _)⟩
  by_cases h9 : 9 < ln
  · have hE : Hid (numI s = -1) := by
      show _ = _
      unfold numI numB
      rw [if_pos (.inr (.inl (by omega)))]
    have g0 : ¬ s.length = 0 := by omega
    have g1 : decide ((9 : Int) < (s.length : Int)) = true := by simp; omega
    clear HLN hln h0 h9 hn
    go_enter Tryz.func82, Tryz.ntmps82
    go_wp2_with fail
    go_ret
    exact ⟨by rw [hE.out]; rfl, Kept.toBelow (Kept.refl _ _)⟩
  have g0 : ((ln : Int) == 0) = false := by simp; omega
  have g1 : decide ((9 : Int) < (ln : Int)) = false := by simp; omega
  have g8 : 0 < ln := by omega
  obtain ⟨c0, hc0⟩ : ∃ c0, byt s 0 = c0 := ⟨_, rfl⟩
  by_cases hz : 1 < ln ∧ c0.toNat = 48
  · have g2 : decide ((1 : Int) < (ln : Int)) = true := by simp; omega
    have g3 : c0.toNat = 48 := hz.2
    have hq : s.head? = some 48 := by
      cases s with
      | nil => exact absurd hln.symm h0
      | cons a r =>
        have e : a = c0 := hc0
        rw [e]
        exact congrArg some (UInt8.toNat_inj.1 g3)
    have hE : Hid (numI s = -1) := by
      show _ = _
      unfold numI numB
      rw [if_pos (.inr (.inr (.inl ⟨by have := HLN.out; omega, hq⟩)))]
    have g8 : 0 < ln := by omega
    clear hz h0 h9
    go_enter Tryz.func82, Tryz.ntmps82
    go_wp2_with fail
    go_ret
    exact ⟨by rw [hE.out]; rfl, Kept.toBelow (Kept.refl _ _)⟩
  have hnz : 1 < ln → ((c0.toNat : Int) == 48) = false := fun h => by
    simp only [beq_eq_false_iff_ne, ne_eq]
    intro h9
    exact hz ⟨h, by omega⟩
  have HE0 : Hid (s.all isD = true → numI s = (valB s : Nat)) := Lib.hid (fun h => by
    unfold numI numB
    rw [if_neg]
    rintro (h5 | h5 | ⟨h5, h6⟩ | h5)
    · rw [h5] at hln; exact h0 hln.symm
    · omega
    · refine hz ⟨by omega, ?_⟩
      cases s with
      | nil => cases h6
      | cons a r =>
        have e : a = c0 := hc0
        rw [← e, Option.some.inj h6]
        rfl
    · rw [h5] at h; cases h)
  have HE1 : Hid (s.all isD = false → numI s = -1) := Lib.hid (fun h => by
    unfold numI numB
    rw [if_pos (.inr (.inr (.inr h)))])
  by_cases h1 : 1 < ln
  case' pos =>
    have g2 : decide ((1 : Int) < (ln : Int)) = true := by simp; omega
    have g4 := hnz h1
  case' neg =>
    have g2 : decide ((1 : Int) < (ln : Int)) = false := by simp; omega
  all_goals
    clear hz hnz h1
    go_enter Tryz.func82, Tryz.ntmps82
    go_wp2_with fail
    go_loopw [3, 4] (fun s3 s4 wr => ∃ i : Nat, i ≤ ln ∧ s4 = .int .i64 i ∧ s3 = .int .i64 (valB (s.take i) : Nat) ∧ Hid ((s.take i).all isD = true) ∧ Hid (Kept [] w wr)) (fun _ s4 _ => ln - (intOf s4).toNat)
    case atStart => exact ⟨0, Nat.zero_le _, rfl, rfl, Lib.hid rfl, Lib.hid (Kept.refl _ _)⟩
    case round =>
    obtain ⟨i, hi, rfl, rfl, HAL, HKR⟩ := hrel
    by_cases hlt : i < ln
    case neg =>
      obtain rfl : i = ln := by omega
      have HTK : Hid (s.take i = s) := Lib.hid (List.take_of_length_le (by rw [HLN.out]; exact Nat.le_refl _))
      have hE : Hid (numI s = (valB (s.take i) : Nat)) := Lib.hid (by rw [HTK.out]; exact HE0.out (by have h9 := HAL.out; rw [HTK.out] at h9; exact h9))
      go_wp2_with fail
      go_ret
      exact ⟨by rw [hE.out]; rfl, HKR.out.toBelow⟩
    have hi9 : (i : Int) < (ln : Int) := by omega
    obtain ⟨c, hc⟩ : ∃ c, byt s i = c := ⟨_, rfl⟩
    have HC := Lib.hid hc
    have HCD : Hid (isD c = (decide (48 ≤ c.toNat) && decide (c.toNat ≤ 57))) := Lib.hid (by
      unfold isD
      rw [decide_eq_decide.2 (UInt8.le_iff_toNat_le (a := 48) (b := c)), decide_eq_decide.2 (UInt8.le_iff_toNat_le (a := c) (b := 57))]
      rfl)
    by_cases hlo : c.toNat < 48
    case pos =>
      have g5 : decide ((c.toNat : Int) < 48) = true := by simp; omega
      have hE : Hid (numI s = -1) := Lib.hid (HE1.out (all_not (i := i) (by rw [HLN.out]; exact hlt) (by
        have h9 := HC.out
        unfold byt at h9
        rw [h9, HCD.out]
        simp
        omega)))
      go_wp2_with fail
      go_ret
      exact ⟨by rw [hE.out]; rfl, HKR.out.toBelow⟩
    by_cases hhi : 57 < c.toNat
    case pos =>
      have g5 : decide ((c.toNat : Int) < 48) = false := by simp; omega
      have g6 : decide ((57 : Int) < (c.toNat : Int)) = true := by simp; omega
      have hE : Hid (numI s = -1) := Lib.hid (HE1.out (all_not (i := i) (by rw [HLN.out]; exact hlt) (by
        have h9 := HC.out
        unfold byt at h9
        rw [h9, HCD.out]
        simp
        omega)))
      go_wp2_with fail
      go_ret
      exact ⟨by rw [hE.out]; rfl, HKR.out.toBelow⟩
    have g5 : decide ((c.toNat : Int) < 48) = false := by simp; omega
    have g6 : decide ((57 : Int) < (c.toNat : Int)) = false := by simp; omega
    have HAL2 : Hid ((s.take (i + 1)).all isD = true) := Lib.hid (all_take (by rw [HLN.out]; exact hlt) HAL.out (by
        have h9 := HC.out
        unfold byt at h9
        rw [h9, HCD.out]
        simp
        omega))
    have HVT : Hid (valB (s.take (i + 1)) = 10 * valB (s.take i) + (c.toNat - 48)) := Lib.hid (by
      have h9 := HC.out
      unfold byt at h9
      rw [val_take (by rw [HLN.out]; exact hlt), h9])
    have hv9 : valB (s.take i) < 1000000000 := by
      have h1 := val_lt i (by rw [HLN.out]; omega) HAL.out
      have h2 : (10 : Nat) ^ i ≤ 10 ^ 9 := Nat.pow_le_pow_right (by omega) (by omega)
      omega
    obtain ⟨v, hv⟩ : ∃ v, valB (s.take i) = v := ⟨_, rfl⟩
    rw [hv] at hv9 HVT
    rw [hv]
    go_wp2_with fail
    have HV2 : Hid ((10 * (v : Int) + ((c.toNat : Int) - 48)) = ((valB (s.take (i + 1)) : Nat) : Int)) := Lib.hid (by rw [HVT.out]; omega)
    exact ⟨⟨i + 1, by omega, by go_num, by rw [HV2.out], HAL2, HKR⟩, by simp [intOf]; omega⟩
end Go.Proofs.YtooejoajojanjaaGreatDoor
namespace Go.Df
open Go.RowKit
def strV (s : List UInt8) : Value := .string ⟨s.toArray⟩
/-- A slice of strings. -/
def Strs (w : World) (A : Option Addr) (n : Nat) (l : List (List UInt8)) : Prop :=
  l.length = n ∧ (0 < n → ∃ b o, A = some ⟨b, o, none⟩ ∧ b < w.heap.size ∧ ∀ i, i < n → w.cell? ⟨b, o + i, none⟩ = some (strV (l.getD i [])))
theorem Strs.later {w w' : World} {A : Option Addr} {n : Nat} {l : List (List UInt8)} (h : Strs w A n l) (hb : Below w.heap.size w w') : Strs w' A n l :=
  ⟨h.1, fun hn => by
    obtain ⟨b, o, e, hl, hc⟩ := h.2 hn
    exact ⟨b, o, e, Nat.lt_of_lt_of_le hl hb.size, fun i hi => (hb.cell (p := ⟨b, _, none⟩) hl).trans (hc i hi)⟩⟩
theorem Strs.ofOwn {w : World} {base : Nat} {e : TypeId} {A : Option Addr} {n c : Nat} {l : List (List UInt8)} (h : w.ownsRow base e 1 (.slice A n c) n (l.map strV)) : Strs w A n l ∧ n ≤ c := by
  have hl : l.length = n := by simpa using h.1
  by_cases h0 : 0 < n
  · obtain ⟨g, c', hv, hb, hg, hc, -, hcell, -⟩ := own_cellsT h h0
    injection hv with e1 e2 e3
    subst e1
    subst e3
    refine ⟨⟨hl, fun _ => ⟨g, 0, rfl, hg, fun i hi => ?_⟩⟩, hc⟩
    rw [Nat.zero_add, hcell i (by omega), List.getElem?_map, List.getElem?_eq_getElem (by omega), List.getD_eq_getElem?_getD, List.getElem?_eq_getElem (by omega)]
    rfl
  · exact ⟨⟨hl, fun h => absurd h h0⟩, by omega⟩
/-- A list of words comes back. -/
def GetW (w : World) (l : List (List UInt8)) (e : Ending) (w' : World) : Prop := ∃ A n c, e = .returned (.slice A n c) ∧ Strs w' A n l ∧ Below w.heap.size w w'
theorem Strs.two {w : World} {A : Option Addr} {n : Nat} {x0 x1 : List UInt8} (h : Strs w A n [x0, x1]) : n = 2 ∧ ∃ b o, A = some ⟨b, o, none⟩ ∧ b < w.heap.size ∧ w.cell? ⟨b, o, none⟩ = some (.string ⟨x0.toArray⟩) ∧ w.cell? ⟨b, o + 1, none⟩ = some (.string ⟨x1.toArray⟩) := by
  obtain ⟨h1, h2⟩ := h
  obtain rfl : n = 2 := h1.symm
  obtain ⟨b, o, e, hl, hc⟩ := h2 (by omega)
  exact ⟨rfl, b, o, e, hl, hc 0 (by omega), hc 1 (by omega)⟩
theorem Strs.three {w : World} {A : Option Addr} {n : Nat} {x0 x1 x2 : List UInt8} (h : Strs w A n [x0, x1, x2]) : n = 3 ∧ ∃ b o, A = some ⟨b, o, none⟩ ∧ b < w.heap.size ∧ w.cell? ⟨b, o, none⟩ = some (.string ⟨x0.toArray⟩) ∧ w.cell? ⟨b, o + 1, none⟩ = some (.string ⟨x1.toArray⟩) ∧ w.cell? ⟨b, o + 2, none⟩ = some (.string ⟨x2.toArray⟩) := by
  obtain ⟨h1, h2⟩ := h
  obtain rfl : n = 3 := h1.symm
  obtain ⟨b, o, e, hl, hc⟩ := h2 (by omega)
  exact ⟨rfl, b, o, e, hl, hc 0 (by omega), hc 1 (by omega), hc 2 (by omega)⟩
theorem ext_cut (s : List UInt8) {f i : Nat} : ByteArray.extract ⟨s.toArray⟩ f i = ⟨((s.drop f).take (i - f)).toArray⟩ := by
  apply ByteArray.ext
  simp
namespace If
theorem strs_snoc (l : List Bs) (x : Bs) : l.map strV ++ [strV x] = (l ++ [x]).map strV := by simp
/-- What stands before a place that is a space. -/
theorem spl_at {s : Bs} {f i : Nat} (hf : f ≤ i) (hi : i < s.length) (hno : ∀ j, f ≤ j → j < i → byt s j ≠ 32) (h32 : byt s i = 32) : splW (s.drop f) = (s.drop f).take (i - f) :: splW (s.drop (i + 1)) := by
  have e1 : s.drop f = (s.drop f).take (i - f) ++ 32 :: s.drop (i + 1) := by
    have h1 : (s.drop f).drop (i - f) = s.drop i := by rw [List.drop_drop]; congr 1; omega
    have h2 : s.drop i = 32 :: s.drop (i + 1) := by
      rw [List.drop_eq_getElem_cons hi]
      rw [← bs_get2 s i hi] at h32
      rw [h32]
    rw [← h2, ← h1, List.take_append_drop]
  have h3 : ∀ c ∈ (s.drop f).take (i - f), c ≠ 32 := fun c hc => by
    obtain ⟨j, hj, rfl⟩ := List.getElem_of_mem hc
    rw [List.length_take] at hj
    rw [List.getElem_take, List.getElem_drop, bs_get2]
    exact hno _ (by omega) (by omega)
  exact (congrArg splW e1).trans (spl_app h3)
theorem spl_end {s : Bs} {f : Nat} (hno : ∀ j, f ≤ j → j < s.length → byt s j ≠ 32) : splW (s.drop f) = [s.drop f] := spl_one fun c hc => by
  obtain ⟨j, hj, rfl⟩ := List.getElem_of_mem hc
  rw [List.length_drop] at hj
  rw [List.getElem_drop, bs_get2]
  exact hno _ (by omega) (by omega)
theorem byt_eq {s : Bs} {i : Nat} {c : UInt8} {k : Nat} (h : byt s i = c) (hk : k < 256) : (byt s i = UInt8.ofNat k) ↔ c.toNat = k := by
  rw [h]
  exact ⟨fun e => by rw [e]; simp; omega, fun e => by apply UInt8.toNat_inj.1; rw [e]; simp; omega⟩
theorem tk_all {s : Bs} {f n : Nat} (h : s.length = n) : (s.drop f).take (n - f) = s.drop f := List.take_of_length_le (by simp; omega)
end If
end Go.Df
namespace Go.Proofs.YtooejoajojanjaaGreatDoor
open Go.RowKit Go.Df Go.Df.If
attribute [local go_sem ↓] Go.wp_at_zero Go.wp_at_succ
attribute [local go_sem] bs_get bs_get2
theorem strf_info : (Tryz.prog.info? 9).map (fun i => (i.zero, i.size, i.bytes)) = some (some (.string ByteArray.empty), 1, 16) := by kernel_rfl
set_option maxRecDepth 100000 in
set_option maxHeartbeats 4000000 in
theorem rwords_any (s : Bs) (w : World) (hn : s.length ≤ 100000) :
    Calls Tryz.prog 81 #[.string ⟨s.toArray⟩] w (GetW w (splW s)) := by
  obtain ⟨i1, hj, hy0, hy1, hy2⟩ := info_parts strf_info
  obtain ⟨ln, hln⟩ : ∃ ln, s.length = ln := ⟨_, rfl⟩
  have HLN := Lib.hid hln
  have hln9 : ln ≤ 100000 := by omega
  clear hn
  go_enter Tryz.func81, Tryz.ntmps81
  go_wp2_with fail
  go_loopw [3, 4, 5] (fun s1 s2 s3 wr => ∃ (i f : Nat) (B : Option Addr) (k cB : Nat) (o : List Bs), i ≤ ln ∧ f ≤ i ∧ s3 = .int .i64 i ∧ s2 = .int .i64 f ∧ s1 = .slice B k cB ∧ k ≤ i ∧ Kept [] w wr ∧ Hid (o.length = k) ∧ Hid (wr.ownsRow w.heap.size 9 1 (.slice B k cB) k (o.map strV)) ∧ Hid (splW s = o ++ splW (s.drop f)) ∧ Hid (∀ j, f ≤ j → j < i → byt s j ≠ 32)) (fun _ _ s3 _ => ln - (intOf s3).toNat)
  case atStart => exact ⟨0, 0, none, 0, 0, [], Nat.zero_le _, Nat.le_refl _, rfl, rfl, rfl, Nat.le_refl _, Kept.refl _ _, Lib.hid rfl, Lib.hid (World.ownsRow_nil _ _ _ _), Lib.hid rfl, Lib.hid (fun j h1 h2 => absurd h2 (by omega))⟩
  case round =>
  obtain ⟨i, f, B, k, cB, o, hi, hf, rfl, rfl, rfl, hki, hkr, HOK, HOW, HSP, HNO⟩ := hrel
  have hsr := hkr.size
  have HX : Hid (∀ y ∈ (Value.slice B k cB).ownBlock.toList, w.heap.size ≤ y) := (fun y hy => own_ge HOW.out (by simpa using hy))
  have HEX : Hid (∀ j : Nat, ByteArray.extract ⟨s.toArray⟩ f j = ⟨((s.drop f).take (j - f)).toArray⟩) := Lib.hid (fun j => ext_cut s)
  by_cases hlt : i < ln
  case neg =>
    obtain rfl : i = ln := by omega
    have HAP : Hid (o.map strV ++ [strV ((s.drop f).take (i - f))] = (splW s).map strV) := Lib.hid (by
      rw [HSP.out, spl_end (fun j h1 h2 => HNO.out j h1 (by rw [← HLN.out]; exact h2)), ← strs_snoc, tk_all HLN.out])
    have hext := HEX.out i
    -- MARK1
    go_wp2_with (at_builtin; refine wpList_append_rd _ rfl _ _ 143 rfl w.heap.size 9 i1 (.string ByteArray.empty) 1 16 Tryz.underlying143 hj hy0 hy1 hy2 rfl (by decide) (.slice B k cB) k _ rfl (own_keptT (X := []) HOW.out ((Kept.refl _ _).alloc _) (by simp)) (some ⟨wr.heap.size, 0, none⟩) 1 1 [strV ((s.drop f).take (i - f))] rfl (Rd.new1 _ _ _ _ rfl) (fun h => by cases h) (by intro u hu; simp at hu; subst hu; rfl) (k + 1) rfl _ HAP.out (by unfold maxLen; omega) (by omega) (by simp; omega) ?_; intro A9 c9 w9 hown4 hk4 hat4; have hk5 := Lib.hid ((hkr.alloc (.cells #[strV ((s.drop f).take (i - f))] 9)).next hk4 (fun y hy => Or.inr (HX.out y hy))); have HO4 := Lib.hid hown4; clear hown4 hk4 hat4)
    go_ret
    exact ⟨A9, _, c9, rfl, (Strs.ofOwn HO4.out).1, hk5.out.toBelow⟩
  have hi9 : (i : Int) < (ln : Int) := by omega
  obtain ⟨c, hc⟩ : ∃ c, byt s i = c := ⟨_, rfl⟩
  have HC := Lib.hid hc
  by_cases h32 : c.toNat = 32
  case neg =>
    have g1 : ((c.toNat : Int) == 32) = false := by simp; omega
    have HN2 : Hid (∀ j, f ≤ j → j < i + 1 → byt s j ≠ 32) := Lib.hid (fun j h1 h2 => by
      by_cases e : j = i
      · rw [e]; exact fun h => h32 ((byt_eq (k := 32) HC.out (by decide)).1 h)
      · exact HNO.out j h1 (by omega))
    go_wp2_with fail
    exact ⟨⟨i + 1, f, B, k, cB, o, by omega, by omega, by go_num, rfl, rfl, by omega, hkr, HOK, HOW, HSP, HN2⟩, by simp [intOf]; omega⟩
  case pos =>
    have g1 : ((c.toNat : Int) == 32) = true := by simp; omega
    have HAP : Hid (o.map strV ++ [strV ((s.drop f).take (i - f))] = (o ++ [(s.drop f).take (i - f)]).map strV) := Lib.hid (strs_snoc _ _)
    have HSP2 : Hid (splW s = (o ++ [(s.drop f).take (i - f)]) ++ splW (s.drop (i + 1))) := Lib.hid (by
      rw [HSP.out, spl_at hf (by rw [HLN.out]; exact hlt) HNO.out ((byt_eq (k := 32) HC.out (by decide)).2 h32)]
      simp)
    have HL2 : Hid ((o ++ [(s.drop f).take (i - f)]).length = k + 1) := Lib.hid (by rw [List.length_append, HOK.out]; rfl)
    have hext := HEX.out i
    -- MARK2
    go_wp2_with (at_builtin; refine wpList_append_rd _ rfl _ _ 143 rfl w.heap.size 9 i1 (.string ByteArray.empty) 1 16 Tryz.underlying143 hj hy0 hy1 hy2 rfl (by decide) (.slice B k cB) k _ rfl (own_keptT (X := []) HOW.out ((Kept.refl _ _).alloc _) (by simp)) (some ⟨wr.heap.size, 0, none⟩) 1 1 [strV ((s.drop f).take (i - f))] rfl (Rd.new1 _ _ _ _ rfl) (fun h => by cases h) (by intro u hu; simp at hu; subst hu; rfl) (k + 1) rfl _ HAP.out (by unfold maxLen; omega) (by omega) (by simp; omega) ?_; intro A9 c9 w9 hown4 hk4 hat4; have hk5 := Lib.hid ((hkr.alloc (.cells #[strV ((s.drop f).take (i - f))] 9)).next hk4 (fun y hy => Or.inr (HX.out y hy))); have HO4 := Lib.hid hown4; clear hown4 hk4 hat4)
    exact ⟨⟨i + 1, i + 1, A9, k + 1, c9, _, by omega, Nat.le_refl _, by go_num, by go_num, rfl, by omega, hk5.out, HL2, HO4, HSP2, Lib.hid (fun j h1 h2 => absurd h2 (by omega))⟩, by simp [intOf]; omega⟩
end Go.Proofs.YtooejoajojanjaaGreatDoor
namespace Go.Df
open Go.RowKit
namespace If
open Sp
theorem idx_no {c : UInt8} : ∀ {s : Bs}, (∀ x ∈ s, x ≠ c) → Lib.index s [c] = -1
  | [], _ => rfl
  | b :: s, h => by
    have h1 : b ≠ c := h b (by simp)
    have h2 := idx_no (s := s) fun x hx => h x (List.mem_cons_of_mem _ hx)
    unfold Lib.index
    rw [if_neg (by simp [List.isPrefixOf]; exact fun e => h1 e.symm), h2]
    rfl
theorem idx_at {c : UInt8} {r : Bs} : ∀ {w : Bs}, (∀ x ∈ w, x ≠ c) → Lib.index (w ++ c :: r) [c] = w.length
  | [], _ => by
    show Lib.index (c :: r) [c] = _
    unfold Lib.index
    rw [if_pos (by simp [List.isPrefixOf])]
    rfl
  | b :: w, h => by
    have h1 : b ≠ c := h b (by simp)
    have h2 := idx_at (r := r) (w := w) fun x hx => h x (List.mem_cons_of_mem _ hx)
    show Lib.index (b :: (w ++ c :: r)) [c] = _
    unfold Lib.index
    rw [if_neg (by simp [List.isPrefixOf]; exact fun e => h1 e.symm), h2, if_neg (by simp)]
    simp
theorem mem_cut {c : UInt8} : ∀ {s : Bs}, c ∈ s → ∃ w r, s = w ++ c :: r ∧ ∀ x ∈ w, x ≠ c
  | [], h => by cases h
  | b :: s, h => by
    by_cases e : b = c
    · subst e; exact ⟨[], s, rfl, by simp⟩
    · rcases List.mem_cons.1 h with h | h
      · exact absurd h.symm e
      · obtain ⟨w, r, rfl, h1⟩ := mem_cut h
        refine ⟨b :: w, r, rfl, fun x hx => ?_⟩
        rcases List.mem_cons.1 hx with h | h
        · rw [h]; exact e
        · exact h1 x h
theorem splK_splW : ∀ (n : Nat) (s : Bs), s.length ≤ n → Lib.splitK [32] 0 (Lib.count s [32]) s = splW s := by
  intro n
  induction n with
  | zero =>
    intro s h
    obtain rfl := List.length_eq_zero_iff.1 (Nat.le_zero.1 h)
    rfl
  | succ n ih =>
    intro s h
    by_cases hm : (32 : UInt8) ∈ s
    · obtain ⟨w, r, rfl, hw⟩ := mem_cut hm
      have hi := idx_at (r := r) hw
      have hd : (w ++ 32 :: r).drop (w.length + 1) = r := by
        rw [show w.length + 1 = (w ++ [(32 : UInt8)]).length by simp, show w ++ 32 :: r = (w ++ [32]) ++ r by simp, List.drop_left]
      have hc := Lib.count_hit (sub := [32]) (by simp) hi
      rw [show w.length + [(32 : UInt8)].length = w.length + 1 from rfl, hd] at hc
      rw [hc, Nat.add_comm, Lib.splitK, hi, if_neg (by simp), spl_app hw, Int.toNat_natCast, Nat.add_zero]
      rw [show w.length + [(32 : UInt8)].length = w.length + 1 from rfl, hd, List.take_left, ih r (by simp at h; omega)]
    · have hw : ∀ x ∈ s, x ≠ 32 := fun x hx e => hm (e ▸ hx)
      rw [Lib.count_miss (idx_no hw), spl_one hw]
      rfl
theorem cutN_none : ∀ {s : Bs}, cutN s = none → ∀ x ∈ s, x ≠ 10
  | [], _, x, hx => by cases hx
  | c :: s, h, x, hx => by
    unfold cutN at h
    split at h
    · cases h
    · rename_i hc
      have h1 : cutN s = none := by simpa using h
      rcases List.mem_cons.1 hx with e | e
      · rw [e]; exact hc
      · exact cutN_none h1 x e
theorem cutN_no : ∀ {s a r : Bs}, cutN s = some (a, r) → ∀ x ∈ a, x ≠ 10
  | [], _, _, h => by cases h
  | c :: s, a, r, h => by
    unfold cutN at h
    split at h
    · cases h
      simp
    · rename_i hc
      cases hs : cutN s with
      | none => rw [hs] at h; cases h
      | some p =>
        rw [hs] at h
        obtain ⟨a', r'⟩ := p
        simp at h
        obtain ⟨rfl, rfl⟩ := h
        intro x hx
        rcases List.mem_cons.1 hx with e | e
        · rw [e]; exact hc
        · exact cutN_no hs x e
theorem cut_is (s : Bs) : Lib.cut s [10] = match cutN s with | none => (s, [], false) | some (a, r) => (a, r, true) := by
  cases h : cutN s with
  | none =>
    have hi := idx_no (cutN_none h)
    unfold Lib.cut
    rw [hi]
    rfl
  | some p =>
    obtain ⟨a, r⟩ := p
    have hl := cutN_len h
    have hi : Lib.index s [10] = a.length := by rw [hl]; exact idx_at (cutN_no h)
    unfold Lib.cut
    rw [hi, if_pos (by omega), Int.toNat_natCast]
    have hd : s.drop (a.length + [(10 : UInt8)].length) = r := by
      rw [hl, show a.length + [(10 : UInt8)].length = (a ++ [(10 : UInt8)]).length by simp, show a ++ 10 :: r = (a ++ [10]) ++ r by simp, List.drop_left]
    rw [hd]
    congr 1
    rw [hl, List.take_left]
/-! ### What Check says of a list that has grown by one line -/
theorem fn_bd {K R R' : List Su} {u u' : Su} (h : u.f = u'.f) : fnErr (K ++ u :: R) K.length = fnErr (K ++ u' :: R') K.length := by
  unfold fnErr
  rw [gS_at, gS_at, h]
  by_cases h0 : 0 < K.length
  · rw [gS_app (show K.length - 1 < K.length by omega), gS_app (show K.length - 1 < K.length by omega)]
  · have e : ∀ P : Prop, (0 < K.length ∧ P) ↔ False := fun P => ⟨fun h => h0 h.1, False.elim⟩
    simp only [e]
theorem su_pre {F : Int} {K R : List Su} (h : sumErr F (K ++ R) = 0) {R' : List Su} : ∀ i, i < K.length → suErr F (K ++ R') i = 0 := fun i hi => by
  have h9 := (sum_ok.1 h).2.2 i (by simp; omega)
  rw [fn_app hi, gS_app hi] at h9
  refine su_ok.2 ?_
  rw [fn_app hi, gS_app hi]
  exact h9
theorem ls_nil (F : Int) : lsErr F [] = 0 := rfl
theorem sum_snocF {L : List Su} {n : Int} (h : sumErr 1024 L = 0) : sumErr 1024 (L ++ [⟨n, [], []⟩]) = if 256 < L.length + 1 then 3 else fnErr (L ++ [⟨n, [], []⟩]) L.length := by
  have h0 : sumErr 1024 (L ++ []) = 0 := by rw [List.append_nil]; exact h
  unfold sumErr
  rw [if_neg (by omega), List.length_append, List.length_singleton]
  split
  · rfl
  · rw [fe_last (su_pre h0)]
    unfold suErr
    rw [gS_at, ls_nil]
    by_cases h9 : fnErr (L ++ [⟨n, [], []⟩]) L.length = 0
    · rw [if_neg (not_not_intro h9), if_neg (not_not_intro rfl), h9]
    · rw [if_pos h9]
theorem ls_snoc {F : Int} {l : List Pr} {p : Pr} (h : lsErr F l = 0) : lsErr F (l ++ [p]) = if 8192 < l.length + 1 then 3 else prErr F (l ++ [p]) l.length := by
  unfold lsErr
  rw [List.length_append, List.length_singleton]
  split
  · rfl
  · exact fe_last fun i hi => by rw [pr_app hi]; exact (ls_ok.1 h).2 i hi
theorem sum_addX {K : List Su} {f : Int} {x : List Pr} {p : Pr} (h : sumErr 1024 (K ++ [⟨f, x, []⟩]) = 0) : sumErr 1024 (K ++ [⟨f, x ++ [p], []⟩]) = if 8192 < x.length + 1 then 3 else prErr 1024 (x ++ [p]) x.length := by
  obtain ⟨h1, h2, h3⟩ := sum_ok.1 h
  have h9 := h3 K.length (by simp)
  rw [gS_at] at h9
  have hl : (K ++ [⟨f, x ++ [p], []⟩] : List Su).length = K.length + 1 := by simp
  unfold sumErr
  rw [if_neg (by omega), hl, if_neg (by simp at h2; omega), fe_last (su_pre h), ← ls_snoc h9.2.1]
  have e9 : fnErr (K ++ [⟨f, x ++ [p], []⟩]) K.length = 0 := (fn_bd (R := []) (u := ⟨f, x ++ [p], []⟩) (u' := ⟨f, x, []⟩) (R' := []) rfl).trans h9.1
  unfold suErr
  rw [gS_at, if_neg (not_not_intro e9)]
  dsimp only
  rw [ls_nil]
  by_cases h8 : lsErr 1024 (x ++ [p]) = 0
  · rw [if_neg (not_not_intro h8), h8]
  · rw [if_pos h8]
theorem sum_addY {K : List Su} {f : Int} {x y : List Pr} {p : Pr} (h : sumErr 1024 (K ++ [⟨f, x, y⟩]) = 0) : sumErr 1024 (K ++ [⟨f, x, y ++ [p]⟩]) = if 8192 < y.length + 1 then 3 else prErr 1024 (y ++ [p]) y.length := by
  obtain ⟨h1, h2, h3⟩ := sum_ok.1 h
  have h9 := h3 K.length (by simp)
  rw [gS_at] at h9
  have hl : (K ++ [⟨f, x, y ++ [p]⟩] : List Su).length = K.length + 1 := by simp
  unfold sumErr
  rw [if_neg (by omega), hl, if_neg (by simp at h2; omega), fe_last (su_pre h), ← ls_snoc h9.2.2]
  have e9 : fnErr (K ++ [⟨f, x, y ++ [p]⟩]) K.length = 0 := (fn_bd (R := []) (u := ⟨f, x, y ++ [p]⟩) (u' := ⟨f, x, y⟩) (R' := []) rfl).trans h9.1
  unfold suErr
  rw [gS_at, if_neg (not_not_intro e9)]
  dsimp only
  rw [if_neg (not_not_intro h9.2.1)]
end If
end Go.Df
namespace Go.Df
open Go
/-- Memory has grown; what was there is as it was, its marks too. -/
def Grow (w : World) (t : Nat → Nat) (w' : World) (t' : Nat → Nat) : Prop := Kept [] w w' ∧ ∀ g, g < w.heap.size → t' g = t g
theorem Grow.refl (w : World) (t : Nat → Nat) : Grow w t w t := ⟨Kept.refl _ _, fun _ _ => rfl⟩
theorem Grow.trans {w w' w'' : World} {t t' t'' : Nat → Nat} (h : Grow w t w' t') (h' : Grow w' t' w'' t'') : Grow w t w'' t'' :=
  ⟨keptTrans h.1 h'.1, fun g hg => (h'.2 g (Nat.lt_of_lt_of_le hg h.1.size)).trans (h.2 g hg)⟩
/-- A mark for a new block. -/
def mark (t : Nat → Nat) (g m : Nat) : Nat → Nat := fun x => if x = g then m else t x
theorem mark_same (t : Nat → Nat) (g m : Nat) : mark t g m g = m := if_pos rfl
theorem Grow.mark {w w' : World} {t : Nat → Nat} {g m : Nat} (h : Kept [] w w') (hg : w.heap.size ≤ g) : Grow w t w' (Go.Df.mark t g m) :=
  ⟨h, fun x hx => if_neg (by omega)⟩
theorem Grow.keep {w w' : World} {t : Nat → Nat} (h : Kept [] w w') : Grow w t w' t := ⟨h, fun _ _ => rfl⟩
/-- A block with its mark. -/
structure BlkT (w : World) (t : Nat → Nat) (g : Nat) (C : List Value) (m : Nat) : Prop where
  blk : Blk w g C
  tag : t g = m
theorem BlkT.grow {w w' : World} {t t' : Nat → Nat} {g m : Nat} {C : List Value} (h : BlkT w t g C m) (hg : Grow w t w' t') : BlkT w' t' g C m := ⟨hg.1.blk (by simp) h.blk, (hg.2 g h.blk.1).trans h.tag⟩
theorem BlkT.ne {w : World} {t : Nat → Nat} {g g' m m' : Nat} {C C' : List Value} (h : BlkT w t g C m) (h' : BlkT w t g' C' m') (hm : m ≠ m') : g ≠ g' := fun e => hm (by rw [← h.tag, ← h'.tag, e])
theorem BlkT.new (w : World) (t : Nat → Nat) (C : List Value) (ty : TypeId) (m : Nat) : BlkT (w.alloc (.cells C.toArray ty)) (Go.Df.mark t w.heap.size m) w.heap.size C m := ⟨Blk.new _ _ _ _ rfl, mark_same _ _ _⟩
section
variable {P : Program} {Q : Exit → Act → World → Prop} {md : Region.Mode} {S : World → Prop} {n : Nat} {l : List Oper}
/-- The slot of an operation. -/
def dstOf (l : List Oper) (j : Nat) : Option Tmp := (l[j]?).bind (·.dst)
/-- The values of the operations U, in the frame. -/
def putU (l : List Oper) : List Nat → (Nat → Value) → Act → Act
  | [], _, a => a
  | j :: U, vs, a => putU l U vs (a.put (dstOf l j) (vs j))
def upd (vs : Nat → Value) (i : Nat) (v : Value) : Nat → Value := fun j => if j = i then v else vs j
/-- What is known of the values of the operations D. -/
def HypsR (R : Nat → Value → World → (Nat → Nat) → Prop) (vs : Nat → Value) (w : World) (t : Nat → Nat) : List Nat → Prop
  | [] => True
  | j :: D => R j (vs j) w t ∧ HypsR R vs w t D
theorem HypsR.of {R : Nat → Value → World → (Nat → Nat) → Prop} {vs : Nat → Value} {w : World} {t : Nat → Nat} : ∀ (D : List Nat), (∀ j ∈ D, R j (vs j) w t) → HypsR R vs w t D
  | [], _ => trivial
  | j :: D, h => ⟨h j (by simp), HypsR.of D (fun i hi => h i (by simp [hi]))⟩
/-- What operation j owes. -/
def ObR (P : Program) (md : Region.Mode) (Q : Exit → Act → World → Prop) (l : List Oper) (U : List Nat) (R : Nat → Value → World → (Nat → Nat) → Prop) (fr : (Nat → Value) → Act) (w0 : World) (t0 : Nat → Nat) (j : Nat) : Prop :=
  ∃ o post, l.drop j = o :: post ∧ ∃ D : List Nat, (D.all fun i => Region.waitsFor md l.toArray j i && U.contains i) = true ∧ ∀ vs w t, Grow w0 t0 w t → HypsR R vs w t D → ∀ K' : Act → World → Prop, Shut (∀ v a2 w2 t2, a2 = (fr vs).put o.dst v → Grow w t w2 t2 → R j v w2 t2 → K' a2 w2) →
    if Region.wanted o (yielded l.toArray (fr vs).tmps) = true then Oper.wp P o (fr vs) w K' Q else K' ((fr vs).put o.dst undef) w
def ObsR (P : Program) (md : Region.Mode) (Q : Exit → Act → World → Prop) (l : List Oper) (U0 : List Nat) (R : Nat → Value → World → (Nat → Nat) → Prop) (fr : (Nat → Value) → Act) (w0 : World) (t0 : Nat → Nat) : List Nat → Prop
  | [] => True
  | j :: U => ObR P md Q l U0 R fr w0 t0 j ∧ ObsR P md Q l U0 R fr w0 t0 U
/-- U are the operations that are open; n, the last, waits for all; edges lead back. -/
def openB (md : Region.Mode) (l : List Oper) (n : Nat) (U : List Nat) (listed : Array Bool) : Bool :=
  lastB md l.toArray n && decide (l.length = n + 1) && ((List.range n).all fun j => U.contains j == !listed.getD j true) && (U.all fun j => decide (j < n)) && decide (U.Pairwise (fun x y => dstOf l x ≠ dstOf l y ∧ x ≠ y)) &&
    ((List.range l.length).all fun i => match l[i]? with | some o => o.after.all (fun e => !Region.binds md e || decide (e.on < i)) | none => true)
def unl (l : List Oper) (listed : Array Bool) : List Nat := (List.range l.length).filter fun j => !listed.getD j true
end
end Go.Df
namespace Go.Df
open Go.RowKit
def ofNats (l : List Nat) : List Int := l.map fun (x : Nat) => (x : Int)
abbrev SXt (X : List Nat) (ga gb gc : Nat) (W w' : World) : Prop := Kept X W w' ∧ (∀ o, w'.cell? ⟨ga, o, none⟩ = W.cell? ⟨ga, o, none⟩) ∧ (∀ o, w'.cell? ⟨gb, o, none⟩ = W.cell? ⟨gb, o, none⟩) ∧ (∀ o, w'.cell? ⟨gc, o, none⟩ = W.cell? ⟨gc, o, none⟩)
theorem SXt.of {X : List Nat} {ga gb gc : Nat} {W w' : World} (h : Kept X W w') (ha : ga < W.heap.size) (hb : gb < W.heap.size) (hc : gc < W.heap.size) (xa : ga ∉ X) (xb : gb ∉ X) (xc : gc ∉ X) : SXt X ga gb gc W w' := ⟨h, fun o => h.cell ga o ha xa, fun o => h.cell gb o hb xb, fun o => h.cell gc o hc xc⟩
end Go.Df
namespace Go.Proofs.YtooejoajojanjaaGreatDoor
open Go.RowKit Go.Df
end Go.Proofs.YtooejoajojanjaaGreatDoor
namespace Go.Df
open Go.RowKit
namespace If
open Sp
/-- The last start node up to a node. -/
def stOf (ns : List Nd) : Nat → Nat
  | 0 => 0
  | i + 1 => if (gn ns (i + 1)).k = 1 then i + 1 else stOf ns i
theorem stOf_le (ns : List Nd) : ∀ i, stOf ns i ≤ i
  | 0 => Nat.le_refl _
  | i + 1 => by
    rw [stOf]
    split
    · exact Nat.le_refl _
    · exact Nat.le_succ_of_le (stOf_le ns i)
theorem stOf_hit {ns : List Nd} {j : Nat} : ∀ {i : Nat}, j ≤ i → (gn ns j).k = 1 → j ≤ stOf ns i ∧ (gn ns (stOf ns i)).k = 1
  | 0, h, hk => by obtain rfl : j = 0 := by omega
                   exact ⟨Nat.zero_le _, hk⟩
  | i + 1, h, hk => by
    rw [stOf]
    split
    · rename_i h1; exact ⟨h, h1⟩
    · rename_i h1
      by_cases e : j = i + 1
      · subst e; exact absurd hk h1
      · exact stOf_hit (by omega) hk
structure NdOk (ns : List Nd) : Prop where
  err : ∀ x, x < ns.length → nodeErr ns x = 0
  st : ∀ x, x < ns.length → ∃ j, j < ns.length ∧ (gn ns j).f = (gn ns x).f ∧ (gn ns j).k = 1
theorem ndOk_of {ns : List Nd} {m : Int} (h : nodesErr ns m = 0) : NdOk ns := by
  unfold nodesErr at h
  split at h
  · rename_i h0; exact absurd h h0
  · rename_i h0
    split at h
    · rename_i h1; exact absurd h h1
    · rename_i h1
      refine ⟨fun x hx => fe_zero _ _ (Decidable.byContradiction h0) x (Nat.zero_le _) (by omega), fun x hx => ?_⟩
      have h2 := fe_zero _ _ (Decidable.byContradiction h1) x (Nat.zero_le _) (by omega)
      unfold wholeErr at h2
      split at h2
      · cases h2
      · rename_i h3
        refine Classical.byContradiction fun h4 => h3 (.inl (kind_neg.2 fun j hj hh => h4 ⟨j, hj, hh.1, hh.2⟩))
theorem NdOk.kind {ns : List Nd} (h : NdOk ns) {x : Nat} (hx : x < ns.length) : 1 ≤ (gn ns x).k ∧ (gn ns x).k ≤ 4 := by
  have := h.err x hx
  unfold nodeErr at this
  split at this
  · cases this
  · omega
theorem NdOk.le {ns : List Nd} (h : NdOk ns) {i j : Nat} (hij : i ≤ j) (hj : j < ns.length) : (gn ns i).f ≤ (gn ns j).f := by
  by_cases e : i = j
  · rw [e]; exact Int.le_refl _
  · have := node_asc h.err j i (by omega) hj
    unfold lessN at this
    split at this
    · have := of_decide_eq_true this; omega
    · omega
/-- The start of a function stands at or ahead of its nodes. -/
theorem NdOk.ahead {ns : List Nd} (h : NdOk ns) {j x : Nat} (hj : j < ns.length) (hx : x < ns.length) (hf : (gn ns j).f = (gn ns x).f) (hk : (gn ns j).k = 1) : j ≤ x := by
  rcases Nat.lt_or_ge x j with h1 | h1
  · have h2 := node_asc h.err j x h1 hj
    have h3 := h.kind hx
    unfold lessN at h2
    rw [if_neg (by rw [hf]; simp)] at h2
    split at h2
    · have := of_decide_eq_true h2; omega
    · rename_i h4
      have h5 : (gn ns x).k = 1 := by rw [← hk]; exact Decidable.byContradiction h4
      have := of_decide_eq_true h2
      rw [node_i (h.err x hx) (by omega), node_i (h.err j hj) (by omega)] at this
      omega
  · exact h1
theorem NdOk.start {ns : List Nd} (h : NdOk ns) {x : Nat} (hx : x < ns.length) : (gn ns (stOf ns x)).f = (gn ns x).f ∧ (gn ns (stOf ns x)).k = 1 := by
  obtain ⟨j, hj, hf, hk⟩ := h.st x hx
  have h1 := h.ahead hj hx hf hk
  obtain ⟨h2, h3⟩ := stOf_hit h1 hk
  have h4 := stOf_le ns x
  have h5 := h.le h2 (by omega)
  have h6 := h.le h4 hx
  exact ⟨by omega, h3⟩
theorem Ok.nd {p : Pb} (h : Ok p) : NdOk p.ns := ndOk_of (sup_parts h.sup).2.2.1
theorem Ok.edge {p : Pb} (h : Ok p) {k : Nat} (hk : k < p.es.length) :
    0 ≤ (ge p.es k).a ∧ (ge p.es k).a < p.ns.length ∧ 0 ≤ (ge p.es k).b ∧ (ge p.es k).b < p.ns.length ∧ 1 ≤ (ge p.es k).k ∧ (ge p.es k).k ≤ 5 ∧ ((ge p.es k).k ≠ 1 → (ge p.es k).k ≠ 5 → 0 ≤ (ge p.es k).c ∧ (ge p.es k).c < p.ns.length) ∧ fitsB p.ns p.es (ge p.es k) = true := sup_edge h.sup hk
/-- A call leads from an instruction to a start; the ends of a return. -/
theorem Ok.call {p : Pb} (h : Ok p) {k : Nat} (hk : k < p.es.length) (h2 : (ge p.es k).k = 2) : (gn p.ns (ge p.es k).b.toNat).k = 1 ∧ (gn p.ns (ge p.es k).a.toNat).k = 2 ∧ (ge p.es k).c = (ge p.es k).a := by
  have h1 := (h.edge hk).2.2.2.2.2.2.2
  unfold fitsB fitsN at h1
  rw [if_neg (by omega), if_pos h2] at h1
  simp at h1
  exact ⟨h1.2, h1.1.1, h1.1.2⟩
theorem Ok.ret {p : Pb} (h : Ok p) {k : Nat} (hk : k < p.es.length) (h2 : (ge p.es k).k = 3 ∨ (ge p.es k).k = 4) : (gn p.ns (ge p.es k).a.toNat).k = 3 ∨ (gn p.ns (ge p.es k).a.toNat).k = 4 := by
  have h1 := (h.edge hk).2.2.2.2.2.2.2
  unfold fitsB fitsN at h1
  rw [if_neg (by omega), if_neg (by omega)] at h1
  split at h1
  · cases h1
  · omega
/-- A table that is closed under the rules. -/
structure Clo (p : Pb) (T : Nat → Nat → Nat → Prop) : Prop where
  main : T 0 p.mn.toNat 0
  seed : ∀ s ∈ p.sd, T 0 s.n.toNat 0 → T 0 s.n.toNat s.f.toNat
  flow : ∀ k, k < p.es.length → ((ge p.es k).k = 1 ∨ (ge p.es k).k = 5) → ∀ q ∈ gf p.fl k, ∀ a, T a (ge p.es k).a.toNat q.i.toNat → T a (ge p.es k).b.toNat q.o.toNat
  call : ∀ k, k < p.es.length → (ge p.es k).k = 2 → ∀ q ∈ gf p.fl k, ∀ a, T a (ge p.es k).a.toNat q.i.toNat → T q.o.toNat (ge p.es k).b.toNat q.o.toNat
  ret : ∀ c, c < p.es.length → (ge p.es c).k = 2 → ∀ q ∈ gf p.fl c, ∀ r, r < p.es.length → ((ge p.es r).k = 3 ∨ (ge p.es r).k = 4) → ∀ s ∈ gf p.fl r, (ge p.es c).a = (ge p.es r).c → (gn p.ns (ge p.es c).b.toNat).f = (gn p.ns (ge p.es r).a.toNat).f →
    ∀ a, T a (ge p.es c).a.toNat q.i.toNat → T q.o.toNat (ge p.es r).a.toNat s.i.toNat → T a (ge p.es r).b.toNat s.o.toNat
theorem Clo.all {p : Pb} {T : Nat → Nat → Nat → Prop} (h : Clo p T) {a n d : Nat} (hp : PE p a n d) : T a n d := by
  induction hp with
  | main => exact h.main
  | seed _ hs ih => exact h.seed _ hs ih
  | flow hk hk2 hq _ ih => exact h.flow _ hk hk2 _ hq _ ih
  | call hk hk2 hq _ ih => exact h.call _ hk hk2 _ hq _ ih
  | ret hc hc2 hq hr hr2 hs e1 e2 _ _ ih1 ih2 => exact h.ret _ hc hc2 _ hq _ hr hr2 _ hs e1 e2 _ ih1 ih2
end If
end Go.Df
