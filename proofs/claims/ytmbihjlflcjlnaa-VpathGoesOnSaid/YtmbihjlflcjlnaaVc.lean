/- The contracts of vpath's Check, Balanced and End. -/
import Derived.Test.YtmbihjlflcjlnaaVb
namespace Go.Df
open Go.RowKit
/-- A supergraph in memory whose numbers are int64's. -/
structure Gr (w : World) (A1 : Option Addr) (n1 : Nat) (A2 : Option Addr) (n2 : Nat) (ns : List Sp.Nd) (es : List Sp.Ed) : Prop where
  nd : Nds w A1 n1 ns
  ed : Eds w A2 n2 es
  wn : ∀ j, j < n1 → (Lit.int .i64 (gn ns j).f).wf = true
  we : ∀ j, j < n2 → (Lit.int .i64 (ge es j).a).wf = true ∧ (Lit.int .i64 (ge es j).b).wf = true
theorem Gr.later {w w' : World} {A1 A2 : Option Addr} {n1 n2 : Nat} {ns : List Sp.Nd} {es : List Sp.Ed} (h : Gr w A1 n1 A2 n2 ns es) (hb : Below w.heap.size w w') : Gr w' A1 n1 A2 n2 ns es := ⟨h.nd.later hb, h.ed.later hb, h.wn, h.we⟩
theorem Gr.kept {w w' : World} {A1 A2 : Option Addr} {n1 n2 : Nat} {ns : List Sp.Nd} {es : List Sp.Ed} (h : Gr w A1 n1 A2 n2 ns es) (hb : Kept [] w w') : Gr w' A1 n1 A2 n2 ns es := h.later hb.toBelow
namespace Sp
theorem run_err {es : List Ed} : ∀ (path : List Int) {a : Int} {cs : List Int}, (runS es a cs path).1 ≠ 0 → (runS es a cs path).2 = (0, [])
  | [], _, _, h => absurd rfl h
  | k :: r, a, cs, h => by
    rw [runS] at h ⊢
    split
    · rfl
    · rename_i h1
      rw [if_neg h1] at h
      exact run_err r h
theorem follow_err {ns : List Nd} {es : List Ed} {m fr : Int} {path : List Int} (h : (followS ns es m fr path).1 ≠ 0) : (followS ns es m fr path).2 = (0, []) := by
  unfold followS at h ⊢
  split
  · rfl
  · rename_i h1
    rw [if_neg h1] at h
    split
    · rfl
    · rename_i h2
      rw [if_neg h2] at h
      exact run_err path h
def balS (ns : List Nd) (es : List Ed) (m fr : Int) (path : List Int) : Bool := decide ((followS ns es m fr path).1 = 0) && decide ((followS ns es m fr path).2.2 = [])
end Sp
end Go.Df
namespace Go.Proofs.Ytmbihjlflcjlnaa
open Go.RowKit Go.Df
attribute [local go_sem ↓] Go.wp_at_zero Go.wp_at_succ

set_option maxRecDepth 100000 in
set_option maxHeartbeats 1000000 in
theorem pcheck_any (A1 A2 A3 : Option Addr) (n1 c1 n2 c2 n3 c3 : Nat) (mn fr : Int) (ns : List Sp.Nd) (es : List Sp.Ed) (path : List Int) (w : World) (hg : Gr w A1 n1 A2 n2 ns es) (hp : Ints w A3 n3 path) :
    Calls Try.prog 8 #[.agg #[.slice A1 n1 c1, .slice A2 n2 c2, .int .i64 mn], .int .i64 fr, .slice A3 n3 c3] w fun e w' => e = .returned (.int .i64 (Sp.followS ns es mn fr path).1) ∧ Below w.heap.size w w' := by
  have HG := Lib.hid hg
  have HP := Lib.hid hp
  clear hg hp
  go_enter Try.func8, Try.ntmps8
  go_upto_region 1 with fail
  refine wp_named (fun W => ∃ b0, w.heap.size = b0 ∧ Blk W b0 [.slice A1 n1 c1, .slice A2 n2 c2, .int .i64 mn] ∧ Below w.heap.size w W) ⟨_, rfl, ?_, ?_⟩ ?_
  · exact Blk.new _ _ _ _ (by first | rfl | simp)
  · go_grown
  rintro W ⟨b0, e0, B0, hB⟩
  rw [e0]
  have G0 : w.heap.size ≤ b0 := by omega
  clear e0
  have ⟨L0, C0, F0⟩ := B0
  go_wp2_with fail
  refine (follow_any _ _ _ _ _ _ _ _ _ _ _ ns es path _ (HG.out.later hB).nd (HG.out.later hB).ed HG.out.wn HG.out.we (HP.out.later hB)).mono ?_
  rintro e w1 ⟨P, rfl, -, hb1⟩
  have hk1 : Kept [] W w1 := (Kept.refl _ _).call hb1
  have hB1 := hk1.below hB hB.size (by simp)
  obtain ⟨⟨er, a, cs⟩, hf⟩ : ∃ x, Sp.followS ns es mn fr path = x := ⟨_, rfl⟩
  rw [hf]
  have HFo := Lib.hid hf
  clear hf
  go_wp2_with fail
  go_ret
  exact ⟨(congrArg (fun x : Int × Int × List Int => Ending.returned (Value.int .i64 x.1)) HFo.out).symm, hB1.alloc hB1.size _⟩

set_option maxRecDepth 100000 in
set_option maxHeartbeats 1000000 in
theorem bal_any (A1 A2 A3 : Option Addr) (n1 c1 n2 c2 n3 c3 : Nat) (mn fr : Int) (ns : List Sp.Nd) (es : List Sp.Ed) (path : List Int) (w : World) (hg : Gr w A1 n1 A2 n2 ns es) (hp : Ints w A3 n3 path) :
    Calls Try.prog 15 #[.agg #[.slice A1 n1 c1, .slice A2 n2 c2, .int .i64 mn], .int .i64 fr, .slice A3 n3 c3] w fun e w' => e = .returned (.bool (Sp.balS ns es mn fr path)) ∧ Below w.heap.size w w' := by
  have HG := Lib.hid hg
  have HP := Lib.hid hp
  clear hg hp
  go_enter Try.func15, Try.ntmps15
  go_upto_region 1 with fail
  refine wp_named (fun W => ∃ b0, w.heap.size = b0 ∧ Blk W b0 [.slice A1 n1 c1, .slice A2 n2 c2, .int .i64 mn] ∧ Below w.heap.size w W) ⟨_, rfl, ?_, ?_⟩ ?_
  · exact Blk.new _ _ _ _ (by first | rfl | simp)
  · go_grown
  rintro W ⟨b0, e0, B0, hB⟩
  rw [e0]
  have G0 : w.heap.size ≤ b0 := by omega
  clear e0
  have ⟨L0, C0, F0⟩ := B0
  go_wp2_with fail
  refine (follow_any _ _ _ _ _ _ _ _ _ _ _ ns es path _ (HG.out.later hB).nd (HG.out.later hB).ed HG.out.wn HG.out.we (HP.out.later hB)).mono ?_
  rintro e w1 ⟨P, rfl, pd, hb1⟩
  have hk1 : Kept [] W w1 := (Kept.refl _ _).call hb1
  have hB1 := hk1.below hB hB.size (by simp)
  have HS : Hid (Sp.balS ns es mn fr path = (decide ((Sp.followS ns es mn fr path).1 = 0) && decide ((Sp.followS ns es mn fr path).2.2 = []))) := Lib.hid rfl
  generalize (Sp.followS ns es mn fr path).1 = er at *
  generalize (Sp.followS ns es mn fr path).2.1 = a at *
  generalize (Sp.followS ns es mn fr path).2.2 = cs at *
  by_cases h0 : er = 0
  · have h0' : (er == 0) = true := by simpa using h0
    cases cs with
    | nil =>
      obtain rfl : P = none := pd
      have HT : Hid (Sp.balS ns es mn fr path = true) := by show _ = _; rw [HS.out, h0]; rfl
      clear h0
      go_wp2_with fail
      go_ret
      exact ⟨ret_bool HT.out.symm, hB1.alloc hB1.size _⟩
    | cons c r =>
      obtain ⟨b, q, rfl, -, -⟩ := pd
      have HT : Hid (Sp.balS ns es mn fr path = false) := by show _ = _; rw [HS.out]; simp
      clear h0
      go_wp2_with fail
      go_ret
      exact ⟨ret_bool HT.out.symm, hB1.alloc hB1.size _⟩
  · have h0' : (er == 0) = false := by simpa using h0
    have HT : Hid (Sp.balS ns es mn fr path = false) := by show _ = _; rw [HS.out]; simp [h0]
    clear h0
    go_wp2_with fail
    go_ret
    exact ⟨ret_bool HT.out.symm, hB1.alloc hB1.size _⟩

set_option maxRecDepth 100000 in
set_option maxHeartbeats 1000000 in
theorem end_any (A1 A2 A3 : Option Addr) (n1 c1 n2 c2 n3 c3 : Nat) (mn fr : Int) (ns : List Sp.Nd) (es : List Sp.Ed) (path : List Int) (w : World) (hg : Gr w A1 n1 A2 n2 ns es) (hp : Ints w A3 n3 path) :
    Calls Try.prog 14 #[.agg #[.slice A1 n1 c1, .slice A2 n2 c2, .int .i64 mn], .int .i64 fr, .slice A3 n3 c3] w fun e w' => e = .returned (.tuple #[.int .i64 (Sp.followS ns es mn fr path).2.1, .int .i64 (Sp.followS ns es mn fr path).1]) ∧ Below w.heap.size w w' := by
  have HG := Lib.hid hg
  have HP := Lib.hid hp
  clear hg hp
  go_enter Try.func14, Try.ntmps14
  go_upto_region 1 with fail
  refine wp_named (fun W => ∃ b0, w.heap.size = b0 ∧ Blk W b0 [.slice A1 n1 c1, .slice A2 n2 c2, .int .i64 mn] ∧ Below w.heap.size w W) ⟨_, rfl, ?_, ?_⟩ ?_
  · exact Blk.new _ _ _ _ (by first | rfl | simp)
  · go_grown
  rintro W ⟨b0, e0, B0, hB⟩
  rw [e0]
  have G0 : w.heap.size ≤ b0 := by omega
  clear e0
  have ⟨L0, C0, F0⟩ := B0
  go_wp2_with fail
  refine (follow_any _ _ _ _ _ _ _ _ _ _ _ ns es path _ (HG.out.later hB).nd (HG.out.later hB).ed HG.out.wn HG.out.we (HP.out.later hB)).mono ?_
  rintro e w1 ⟨P, rfl, pd, hb1⟩
  have hk1 : Kept [] W w1 := (Kept.refl _ _).call hb1
  have hB1 := hk1.below hB hB.size (by simp)
  have HS := Lib.hid (Sp.follow_err (ns := ns) (es := es) (m := mn) (fr := fr) (path := path))
  obtain ⟨⟨er, a, cs⟩, hf⟩ : ∃ x, Sp.followS ns es mn fr path = x := ⟨_, rfl⟩
  rw [hf] at HS ⊢
  have HFo := Lib.hid hf
  clear hf pd
  by_cases h0 : er = 0
  · have h0' : (er != 0) = false := by simpa using h0
    have H0 := Lib.hid h0
    clear h0
    go_wp2_with fail
    go_ret2
    exact ⟨(congrArg (fun x : Int × Int × List Int => Ending.returned (Value.tuple #[.int .i64 x.2.1, .int .i64 x.1])) (HFo.out.trans (by rw [show er = 0 from H0.out] : (er, a, cs) = (0, a, cs)))).symm, hB1.alloc hB1.size _⟩
  · have h0' : (er != 0) = true := by simpa using h0
    have H0 : Hid ((a, cs) = (0, [])) := HS.out h0
    clear h0
    go_wp2_with fail
    go_ret2
    exact ⟨(congrArg (fun x : Int × Int × List Int => Ending.returned (Value.tuple #[.int .i64 x.2.1, .int .i64 x.1])) (HFo.out.trans (by rw [show a = 0 from congrArg Prod.fst H0.out] : (er, a, cs) = (er, 0, cs)))).symm, hB1.alloc hB1.size _⟩
end Go.Proofs.Ytmbihjlflcjlnaa
