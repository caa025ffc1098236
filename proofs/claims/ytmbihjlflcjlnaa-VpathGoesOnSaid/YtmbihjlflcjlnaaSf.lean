/- The contract of the reference's calls. -/
import Derived.Test.YtmbihjlflcjlnaaSe
namespace Go.Df.Sp
/-- Does this edge call function f from node c? -/
def callB (ns : List Nd) (c f : Int) (e : Ed) : Bool := decide (e.k = 2) && decide (e.a = c) && decide (0 ≤ e.b) && decide (e.b < ns.length) && decide ((gn ns e.b.toNat).f = f) && decide ((gn ns e.b.toNat).k = 1)
def callsB (ns : List Nd) (es : List Ed) (c f : Int) : Bool := es.any (callB ns c f)
theorem calls_hit {ns : List Nd} {es : List Ed} {c f : Int} {j : Nat} (hj : j < es.length) (h : callB ns c f (ge es j) = true) : callsB ns es c f = true := by
  unfold callsB
  rw [List.any_eq_true]
  exact ⟨ge es j, by rw [ge_lt hj]; exact List.getElem_mem hj, h⟩
theorem calls_miss {ns : List Nd} {es : List Ed} {c f : Int} (h : ∀ j, j < es.length → callB ns c f (ge es j) = false) : callsB ns es c f = false := by
  unfold callsB
  rw [List.any_eq_false]
  intro x hx
  obtain ⟨j, hj, rfl⟩ := List.getElem_of_mem hx
  have := h j hj
  rw [ge_lt hj] at this
  simp [this]
end Go.Df.Sp
namespace Go.Proofs.Ytmbihjlflcjlnaa
open Go.RowKit Go.Df
attribute [local go_sem ↓] Go.wp_at_zero Go.wp_at_succ

set_option maxRecDepth 100000 in
set_option maxHeartbeats 2000000 in
theorem calls_any (A1 A2 : Option Addr) (n1 c1 n2 c2 : Nat) (mn cl f : Int) (ns : List Sp.Nd) (es : List Sp.Ed) (w : World) (hn : Nds w A1 n1 ns) (he : Eds w A2 n2 es) (hs : n1 ≤ 1000000) (hs2 : n2 ≤ 1000000) :
    Calls Try.prog 44 #[.agg #[.slice A1 n1 c1, .slice A2 n2 c2, .int .i64 mn], .int .i64 cl, .int .i64 f] w fun e w' => e = .returned (.bool (Sp.callsB ns es cl f)) ∧ Below w.heap.size w w' := by
  have HN := Lib.hid hn
  have HL := Lib.hid hn.1
  have HE := Lib.hid he
  have HLe := Lib.hid he.1
  clear hn he
  go_enter Try.func44, Try.ntmps44
  go_upto_region 1 with fail
  refine wp_named (fun W => ∃ b0, w.heap.size = b0 ∧ Blk W b0 [.slice A1 n1 c1, .slice A2 n2 c2, .int .i64 mn] ∧ Below w.heap.size w W) ⟨_, rfl, ?_, ?_⟩ ?_
  · exact Blk.new _ _ _ _ (by first | rfl | simp)
  · go_grown
  rintro W ⟨b0, e0, B0, hB⟩
  rw [e0]
  have G0 : w.heap.size ≤ b0 := by omega
  clear e0
  have ⟨L0, C0, F0⟩ := B0
  have HW := Lib.hid (HN.out.later hB)
  have HWe := Lib.hid (HE.out.later hB)
  go_wp2_with fail
  go_loopw [7] (fun i wr => ∃ j : Nat, j ≤ n2 ∧ i = .int .i64 j ∧ Kept [] W wr ∧ Hid (∀ x, x < j → Sp.callB ns cl f (ge es x) = false)) (fun i _ => n2 - (intOf i).toNat)
  case atStart => exact ⟨0, Nat.zero_le _, rfl, Kept.refl _ _, Lib.hid (fun j hj => absurd hj (by omega))⟩
  case round =>
    obtain ⟨j, hj, rfl, hkr, hno⟩ := hrel
    have BR := hkr.blk (by simp) B0
    have ⟨LR, CR, FR⟩ := BR
    clear C0 F0
    by_cases hlt : j < n2
    · obtain ⟨b, o, rfl, hl, hc⟩ := (HWe.out.kept hkr).2 (by omega)
      obtain ⟨h1, h2, h3, h4⟩ := hc j hlt
      clear hc
      obtain ⟨ea, eb, ek, ec, en⟩ : ∃ ea eb ek ec, ge es j = ⟨ea, eb, ek, ec⟩ := ⟨_, _, _, _, rfl⟩
      rw [en] at h1 h2 h3 h4
      have HEe := Lib.hid en
      clear en
      go_upto_region 5 with fail
      refine wp_named (fun V => ∃ g, wr.heap.size = g ∧ Blk V g [.int .i64 ea, .int .i64 eb, .int .i64 ek, .int .i64 ec] ∧ Kept [] wr V) ⟨_, rfl, Blk.new _ _ _ _ rfl, (Kept.refl _ _).alloc _⟩ ?_
      rintro V ⟨g, eg, Bg, hkV⟩
      rw [eg]
      have hkw : Kept [] W V := keptTrans hkr hkV
      have BV := hkw.blk (by simp) B0
      have ⟨LV, CV, FV⟩ := BV
      have ⟨LG, CG, FG⟩ := Bg
      have hBV := hkw.below hB hB.size (by simp)
      clear CR FR h1 h2 h3 h4 eg
      have hstep : Hid (Sp.callB ns cl f ⟨ea, eb, ek, ec⟩ = false → ∀ x, x < j + 1 → Sp.callB ns cl f (ge es x) = false) := fun h0 x hx => by
        rcases Nat.lt_or_ge x j with h9 | h9
        · exact hno.out x h9
        · obtain rfl : x = j := by omega
          rw [HEe.out]; exact h0
      have hyes : Hid (Sp.callB ns cl f ⟨ea, eb, ek, ec⟩ = true → Sp.callsB ns es cl f = true) := fun h0 => Sp.calls_hit (by rw [HLe.out]; exact hlt) (by rw [HEe.out]; exact h0)
      by_cases e1 : ek = 2
      · have e1' : (ek == 2) = true := by simpa using e1
        by_cases e2 : ea = cl
        · have e2' : (ea == cl) = true := by simpa using e2
          by_cases e3 : 0 ≤ eb
          · have e3' : decide (0 ≤ eb) = true := by simpa using e3
            by_cases e4 : eb < (n1 : Int)
            · have e4' : decide (eb < (n1 : Int)) = true := by simpa using e4
              obtain ⟨x, rfl⟩ := Int.eq_ofNat_of_zero_le e3
              have hx : x < n1 := by omega
              obtain ⟨b', o', rfl, hl', hc'⟩ := (HW.out.kept hkw).2 (by omega)
              obtain ⟨g1, g2, g3⟩ := hc' x hx
              clear hc' g3
              by_cases e5 : (gn ns x).f = f
              · have e5' : ((gn ns x).f == f) = true := by simpa using e5
                by_cases e6 : (gn ns x).k = 1
                · have e6' : ((gn ns x).k == 1) = true := by simpa using e6
                  have hfin := Lib.hid (hyes.out (by simp [Sp.callB, e1, e2, e5, e6, HL.out, hx]))
                  clear e1 e2 e5 e6
                  go_wp2_with fail
                  go_ret
                  exact ⟨ret_bool hfin.out.symm, hBV⟩
                · have e6' : ((gn ns x).k == 1) = false := by simpa using e6
                  have hfin := Lib.hid (hstep.out (by simp [Sp.callB, e6]))
                  clear e1 e2 e5 e6
                  go_wp2_with fail
                  exact ⟨⟨j + 1, by omega, by go_num, hkw, hfin⟩, by simp [intOf]; omega⟩
              · have e5' : ((gn ns x).f == f) = false := by simpa using e5
                have hfin := Lib.hid (hstep.out (by simp [Sp.callB, e5]))
                clear e1 e2 e5
                go_wp2_with fail
                exact ⟨⟨j + 1, by omega, by go_num, hkw, hfin⟩, by simp [intOf]; omega⟩
            · have e4' : decide (eb < (n1 : Int)) = false := by simpa using e4
              have hfin := Lib.hid (hstep.out (by simp [Sp.callB, HL.out, e4]))
              clear e1 e2
              go_wp2_with fail
              exact ⟨⟨j + 1, by omega, by go_num, hkw, hfin⟩, by simp [intOf]; omega⟩
          · have e3' : decide (0 ≤ eb) = false := by simpa using e3
            have hfin := Lib.hid (hstep.out (by simp [Sp.callB, e3]))
            clear e1 e2
            go_wp2_with fail
            exact ⟨⟨j + 1, by omega, by go_num, hkw, hfin⟩, by simp [intOf]; omega⟩
        · have e2' : (ea == cl) = false := by simpa using e2
          have hfin := Lib.hid (hstep.out (by simp [Sp.callB, e2]))
          clear e1 e2
          go_wp2_with fail
          exact ⟨⟨j + 1, by omega, by go_num, hkw, hfin⟩, by simp [intOf]; omega⟩
      · have e1' : (ek == 2) = false := by simpa using e1
        have hfin := Lib.hid (hstep.out (by simp [Sp.callB, e1]))
        clear e1
        go_wp2_with fail
        exact ⟨⟨j + 1, by omega, by go_num, hkw, hfin⟩, by simp [intOf]; omega⟩
    · go_wp2_with fail
      go_ret
      exact ⟨ret_bool (Sp.calls_miss (fun x hx => hno.out x (by rw [HLe.out] at hx; omega))).symm, hkr.below hB hB.size (by simp)⟩
end Go.Proofs.Ytmbihjlflcjlnaa
