/- Texts: Nrz At Vw. -/
import Derived.Test.YtooejoajojanjaaGreatDoorXSg23
import Derived.Test.YtooejoajojanjaaGreatDoorXSg05
import Derived.Test.YtooejoajojanjaaGreatDoorXSg12
namespace Go.Df
open Go.RowKit
abbrev SXv (X : List Nat) (ga gb gc : Nat) (W w' : World) : Prop := Kept X W w' ∧ (∀ o, w'.cell? ⟨ga, o, none⟩ = W.cell? ⟨ga, o, none⟩) ∧ (∀ o, w'.cell? ⟨gb, o, none⟩ = W.cell? ⟨gb, o, none⟩) ∧ (∀ o, w'.cell? ⟨gc, o, none⟩ = W.cell? ⟨gc, o, none⟩)
theorem SXv.of {X : List Nat} {ga gb gc : Nat} {W w' : World} (h : Kept X W w') (ha : ga < W.heap.size) (hb : gb < W.heap.size) (hc : gc < W.heap.size) (xa : ga ∉ X) (xb : gb ∉ X) (xc : gc ∉ X) : SXv X ga gb gc W w' := ⟨h, fun o => h.cell ga o ha xa, fun o => h.cell gb o hb xb, fun o => h.cell gc o hc xc⟩
end Go.Df
namespace Go.Proofs.YtooejoajojanjaaGreatDoor
open Go.RowKit Go.Df Go.Df.If
attribute [local go_sem ↓] Go.wp_at_zero Go.wp_at_succ
end Go.Proofs.YtooejoajojanjaaGreatDoor
namespace Go.Df
open Go
section
variable {P : Program} {Q : Exit → Act → World → Prop} {md : Region.Mode} {S : World → Prop} {n : Nat}
end
end Go.Df
namespace Go.Df
open Go.RowKit
namespace If
open Sp
theorem putTx (T : Nat → Nat → Nat → Bool) (n a d n' a' d' : Nat) : (putT (T, false) n a d).1 n' a' d' = (T n' a' d' || (n' == n && (a' == a && d' == d))) := by
 unfold putT
 split
 · rename_i h
   by_cases e : n' = n ∧ a' = a ∧ d' = d
   · obtain ⟨rfl, rfl, rfl⟩ := e
     dsimp only at h ⊢
     rw [h]
     rfl
   · have : (n' == n && (a' == a && d' == d)) = false := by
       rw [Bool.eq_false_iff]
       intro h9
       simp at h9
       exact e h9
     rw [this, Bool.or_false]
 · rfl
def SumAt (base : Nat) (tp : TypeId) (w : World) (g : Nat) (f : Int) (l3 l4 : List Pr) (E T : Option Addr) (ne ce nt ct : Nat) : Prop :=
 Blk w g [.int .i64 f, .slice E ne ce, .slice T nt ct] ∧ Prs w E ne l3 ∧ Prs w T nt l4 ∧ (∀ a, E = some a → base ≤ a.block ∧ Tag w a.block tp) ∧ ∀ a, T = some a → base ≤ a.block ∧ Tag w a.block tp
theorem SumAt.of {base base' g : Nat} {tp : TypeId} {w w' : World} {f : Int} {l3 l4 : List Pr} {E T : Option Addr} {ne ce nt ct : Nat} {X : List Nat} (hbb : base ≤ base') (hB : Blk w' g [.int .i64 f, .slice E ne ce, .slice T nt ct]) (h3 : Prs w E ne l3) (h4 : Prs w T nt l4) (f3 : ∀ a, E = some a → base' ≤ a.block ∧ Tag w a.block tp) (f4 : ∀ a, T = some a → base' ≤ a.block ∧ Tag w a.block tp) (hk : Kept X w w') (hX : ∀ x ∈ X, x < base') : SumAt base tp w' g f l3 l4 E T ne ce nt ct := by
 have hE : ∀ a, E = some a → a.block ∉ X := fun a ha hm => by have h1 := hX _ hm; have h2 := (f3 a ha).1; omega
 have hT : ∀ a, T = some a → a.block ∉ X := fun a ha hm => by have h1 := hX _ hm; have h2 := (f4 a ha).1; omega
 exact ⟨hB, prs_keptT h3 hk hE, prs_keptT h4 hk hT, fun a ha => ⟨Nat.le_trans hbb (f3 a ha).1, (f3 a ha).2.same (hk.block _ (f3 a ha).2.lt (hE a ha))⟩, fun a ha => ⟨Nat.le_trans hbb (f4 a ha).1, (f4 a ha).2.same (hk.block _ (f4 a ha).2.lt (hT a ha))⟩⟩
end If
end Go.Df
namespace Go.Proofs.YtooejoajojanjaaGreatDoor
open Go.RowKit Go.Df Go.Df.If
attribute [local go_sem ↓] Go.wp_at_zero Go.wp_at_succ
set_option maxRecDepth 100000 in
set_option maxHeartbeats 4000000 in
theorem rPut_any {N F : Nat} {X : List Nat} {bs : Nat → Nat} {r : Nat} {T : Nat → Nat → Nat → Bool} (c a n d : Nat) (w : World) (hT : TabM N F X bs r w T) (hN : N ≤ 8192) (hF : F ≤ 1024) (hn : n < N) (ha : a < F) (hd : d < F) :
   Calls Tryz.prog 55 #[tabV N F r c, .int .i64 a, .int .i64 n, .int .i64 d] w fun e w' => e = .returned (.tuple #[]) ∧ Kept X w w' ∧ TabM N F X bs r w' (putT (T, false) n a d).1 := by
 have HT := Lib.hid hT
 obtain ⟨v, hv⟩ : ∃ v, T n a d = v := ⟨_, rfl⟩
 have HV := Lib.hid hv
 clear hT hv
 go_enter Tryz.func55, Tryz.ntmps55
 go_upto_region 1 with fail
 refine wp_named (fun W => ∃ b0, w.heap.size = b0 ∧ Blk W b0 [.int .i64 (F : Nat), .slice (some ⟨r, 0, none⟩) N c] ∧ Below w.heap.size w W) ⟨_, rfl, ?_, ?_⟩ ?_
 · exact kbn
 · go_grown
 rintro W ⟨b0, e0, B0, hB⟩
 rw [e0]
 have G0 : w.heap.size ≤ b0 := by omega
 clear e0
 have ⟨L0, C0, F0⟩ := B0
 have TW := Lib.hid (HT.out.kept0 ((Kept.refl [] w).call hB))
 have hkW : Kept X w W := keptWide ((Kept.refl [] w).call hB) (by simp)
 go_wp2_with (go_at_call 97; refine (rtput_is c a n d v _ TW.out hN hF hn ha hd HV.out).mono ?_; rintro e w3 ⟨rfl, hk3, ht3⟩)
 go_end0
 exact ⟨rfl, hkW.next hk3 (fun y hy => .inl hy), ht3⟩
end Go.Proofs.YtooejoajojanjaaGreatDoor
