/- The reference's resumes. -/
import Derived.Test.YtffkikhknabddaaUh
namespace Go.Df
open Go.RowKit
namespace Rc
open Sp If
theorem resI_succ (es : List Ed) (e : Nat → Nat → Bool) (r k j : Nat) : resI es e r k (j + 1) = if e j (ge es k).a.toNat = true then resI es e r k j ++ [(j, (ge es r).b.toNat)] else resI es e r k j := by
  unfold resI
  rw [filter_one]
  split <;> simp
theorem resI_len (es : List Ed) (e : Nat → Nat → Bool) (r k j : Nat) : (resI es e r k j).length ≤ j := by
  unfold resI
  rw [List.length_map]
  exact Nat.le_trans (List.length_filter_le _ _) (by simp)
theorem resX_succ (es : List Ed) (e : Nat → Nat → Bool) (N fr r j : Nat) : resX es e N fr r (j + 1) = if resC es fr r j = true then resX es e N fr r j ++ resI es e r j N else resX es e N fr r j := by
  unfold resX
  rw [List.range_succ, List.flatMap_append]
  simp only [List.flatMap_cons, List.flatMap_nil, List.append_nil]
  split <;> simp
theorem resX_len (es : List Ed) (e : Nat → Nat → Bool) (N fr r : Nat) : ∀ j, (resX es e N fr r j).length ≤ j * N
  | 0 => by simp [resX]
  | j + 1 => by
    have h1 := resX_len es e N fr r j
    have h2 := resI_len es e r j N
    rw [resX_succ, Nat.add_mul]
    split
    · rw [List.length_append]; omega
    · omega
end Rc
end Go.Df
namespace Go.Proofs.Ytffkikhknabddaa
open Go.RowKit Go.Df Go.Df.If Go.Df.Rc
attribute [local go_sem ↓] Go.wp_at_zero Go.wp_at_succ

set_option maxRecDepth 100000 in
set_option maxHeartbeats 20000000 in
theorem rres_any (A1 A2 : Option Addr) (n1 c1 n2 c2 : Nat) (mn : Int) (ns : List Sp.Nd) (es : List Sp.Ed) (w : World) (hnd : Nds w A1 n1 ns) (hed : Eds w A2 n2 es) (hs : Sp.superErr ns es mn = 0) (g : Nat) (bs : Nat → Nat) (e : Nat → Nat → Bool) (hg : GdR w g n1 bs e) (fr c : Nat) (hc : c < es.length) :
    Calls Try.prog 107 #[.agg #[.slice A1 n1 c1, .slice A2 n2 c2, .int .i64 mn], .slice (some ⟨g, 0, none⟩) n1 n1, .int .i64 fr, .agg #[.int .i64 (ge es c).a, .int .i64 (ge es c).b, .int .i64 (ge es c).k, .int .i64 (ge es c).c]] w fun e' w' =>
      ∃ A m cc, e' = .returned (.slice A m cc) ∧ w'.ownsRow w.heap.size 159 2 (.slice A m cc) m (pcells (resX es e n1 fr c es.length)) ∧ Below w.heap.size w w' := by
  have hE2 : n2 ≤ 32768 := by have := (sup_parts hs).2.1; have := hed.1; omega
  have hN1 : n1 ≤ 8192 := by have := (sup_parts hs).1; have := hnd.1; omega
  have HND := Lib.hid hnd
  have HED := Lib.hid hed
  have HS := Lib.hid hs
  have HGD := Lib.hid hg
  have hcd := sup_edge hs hc
  obtain ⟨ca, hca⟩ := Int.eq_ofNat_of_zero_le hcd.1
  obtain ⟨cb, hcb⟩ := Int.eq_ofNat_of_zero_le hcd.2.2.1
  obtain ⟨ck, hck⟩ : ∃ x, (ge es c).k = x := ⟨_, rfl⟩
  obtain ⟨cc0, hcc⟩ : ∃ x, (ge es c).c = x := ⟨_, rfl⟩
  rw [hca, hcb, hck, hcc]
  have HCB := Lib.hid hcb
  have HCC := Lib.hid hcc
  obtain ⟨i0, hi, hz0, hz1, hz2⟩ := info_parts within_info
  clear hnd hed hs hg hcd hca hcb hck hcc
  go_enter Try.func107, Try.ntmps107
  go_upto_region 1 with fail
  refine wp_named (fun W => ∃ b0 b1, w.heap.size = b0 ∧ w.heap.size + 1 = b1 ∧ Blk W b0 [.slice A1 n1 c1, .slice A2 n2 c2, .int .i64 mn] ∧ Blk W b1 [.int .i64 ca, .int .i64 cb, .int .i64 ck, .int .i64 cc0] ∧ Below w.heap.size w W) ⟨_, _, rfl, rfl, ?_, ?_, ?_⟩ ?_
  · exact (Blk.new _ _ _ _ (by first | rfl | simp)).alloc _
  · exact Blk.new _ _ _ _ (by first | rfl | simp)
  · go_grown
  rintro W ⟨b0, b1, e0, e1, B0, B1, hB⟩
  rw [e1, e0]
  have G0 : w.heap.size ≤ b0 := by omega
  have n01 : b0 ≠ b1 := by omega
  have G1 : w.heap.size ≤ b1 := by omega
  have n10 : b1 ≠ b0 := by omega
  clear e0 e1
  have ⟨L0, C0, F0⟩ := B0
  have ⟨L1, C1, F1⟩ := B1
  -- MARK1
  have hkW : Kept [] w W := (Kept.refl _ _).call hB
  have B0' := Lib.hid B0
  have B1' := Lib.hid B1
  go_wp2_with fail
  -- MARK2
  go_loopw [9, 10] (fun s9 s10 wq => ∃ (k : Nat) (A : Option Addr) (m cc : Nat), k ≤ n2 ∧ s9 = .slice A m cc ∧ s10 = .int .i64 k ∧ Kept [] W wq ∧ Hid (m = (resX es e n1 fr c k).length) ∧ Hid (wq.ownsRow W.heap.size 159 2 (.slice A m cc) m (pcells (resX es e n1 fr c k)))) (fun _ s10 _ => n2 - (intOf s10).toNat)
  case atStart => exact ⟨0, none, 0, 0, Nat.zero_le _, rfl, rfl, Kept.refl _ _, Lib.hid rfl, Lib.hid (World.ownsRow_nil _ _ _ _)⟩
  case round =>
  rename World => wq
  obtain ⟨k, A9, m9, c9, hk, rfl, rfl, hkq, HM, OWN⟩ := hrel
  have ⟨L0q, C0q, F0q⟩ := hkq.blk (by simp) B0'.out
  have B1q := Lib.hid (hkq.blk (by simp) B1'.out)
  clear C0 F0 C1 F1
  by_cases hlt : k < n2
  · obtain ⟨b2, o2, rfl, hl2, hc2⟩ := HED.out.2 (by omega)
    have hke : k < es.length := by rw [HED.out.1]; exact hlt
    obtain ⟨r1, r2, r3, r4⟩ := hc2 k hlt
    have hkwq : Kept [] w wq := keptTrans hkW hkq
    replace r1 := (hkwq.cell b2 _ hl2 (by simp)).trans r1
    replace r2 := (hkwq.cell b2 _ hl2 (by simp)).trans r2
    replace r3 := (hkwq.cell b2 _ hl2 (by simp)).trans r3
    replace r4 := (hkwq.cell b2 _ hl2 (by simp)).trans r4
    have hl2q : b2 < wq.heap.size := Nat.lt_of_lt_of_le hl2 hkwq.size
    have hed := sup_edge HS.out hke
    obtain ⟨ea, hea⟩ := Int.eq_ofNat_of_zero_le hed.1
    obtain ⟨eb, heb⟩ := Int.eq_ofNat_of_zero_le hed.2.2.1
    obtain ⟨ek, hek⟩ : ∃ x, (ge es k).k = x := ⟨_, rfl⟩
    obtain ⟨ec, hec⟩ : ∃ x, (ge es k).c = x := ⟨_, rfl⟩
    rw [hea] at r1
    rw [heb] at r2
    rw [hek] at r3
    rw [hec] at r4
    have hea1 : ea < n1 := by have h1 := HND.out.1; have h2 := hed.2.1; omega
    have hea2 : (ea : Int) < (n1 : Int) := by omega
    have hkn : (k : Int) < (n2 : Int) := by omega
    have HRC : Hid (resC es fr c k = (ek == 2 && ((eb : Int) == (fr : Int) && (ea : Int) == cc0))) := Lib.hid (by unfold resC; rw [hek, heb, hea, HCC.out])
    have HEA := Lib.hid hea
    have hm9 : m9 ≤ 300000000 := by have h1 := HM.out; have h2 := resX_len es e n1 fr c k; have h3 : k * n1 ≤ 32768 * 8192 := Nat.mul_le_mul (by omega) hN1; omega
    clear hc2 hea heb hek hec hed
    go_upto_region 6 with fail
    -- MARK3
    refine wp_named (fun X => ∃ y, wq.heap.size = y ∧ Blk X y [.int .i64 ea, .int .i64 eb, .int .i64 ek, .int .i64 ec] ∧ Kept [] wq X) ⟨_, rfl, Blk.new _ _ _ _ rfl, (Kept.refl _ _).alloc _⟩ ?_
    rintro X ⟨y, ey, By, hkX⟩
    rw [ey]
    have ⟨Ly, Cy, Fy⟩ := By
    have BY := Lib.hid By
    have ⟨L1x, C1x, F1x⟩ := hkX.blk (by simp) B1q.out
    have hkWX : Kept [] W X := keptTrans hkq hkX
    have OWX : Hid (X.ownsRow W.heap.size 159 2 (.slice A9 m9 c9) m9 (pcells (resX es e n1 fr c k))) := Lib.hid (own_kept2 OWN.out hkX (by simp))
    have HYN : Hid (y ∉ (Value.slice A9 m9 c9).ownBlock.toList) := Lib.hid (fun hm => by have := own_lt2 OWN.out (by simpa using hm); omega)
    have hWX := hkWX.size
    clear r1 r2 r3 r4 C0q F0q ey OWN By
    by_cases k1 : ek = 2
    · subst k1
      by_cases k2 : eb = fr
      · subst k2
        by_cases k3 : (ea : Int) = cc0
        · subst k3
          have HXS : Hid (resX es e n1 eb c (k + 1) = resX es e n1 eb c k ++ resI es e c k n1) := Lib.hid (by rw [resX_succ, HRC.out, if_pos (by simp)])
          have q1 : ((eb : Int) != (eb : Int)) = false := by simp
          have q2 : ((ea : Int) != (ea : Int)) = false := by simp
          go_wp2_with fail
          -- MARK4
          obtain ⟨S, hS⟩ : ∃ S, S = (Value.slice A9 m9 c9).ownBlock.toList := ⟨_, rfl⟩
          have HSS : Hid (∀ x ∈ S, W.heap.size ≤ x) := Lib.hid (fun x hx => own_ge OWX.out (by rw [hS] at hx; simpa using hx))
          have HSO : Hid (∀ x, (Value.slice A9 m9 c9).ownBlock = some x → x ∈ S) := Lib.hid (fun x hx => by rw [hS]; simpa using hx)
          have HYS : Hid (y ∉ S) := Lib.hid (by rw [hS]; exact HYN.out)
          clear hS
          go_loopw [9, 12] (fun s9 s12 wz => ∃ (s : Nat) (A : Option Addr) (m cc : Nat), s ≤ n1 ∧ s9 = .slice A m cc ∧ s12 = .int .i64 s ∧ Kept S X wz ∧ Hid (∀ x, (Value.slice A m cc).ownBlock = some x → x ∈ S ∨ X.heap.size ≤ x) ∧ Hid (m = (resX es e n1 eb c k ++ resI es e c k s).length) ∧ Hid (wz.ownsRow W.heap.size 159 2 (.slice A m cc) m (pcells (resX es e n1 eb c k ++ resI es e c k s)))) (fun _ s12 _ => n1 - (intOf s12).toNat)
          case atStart => exact ⟨0, A9, m9, c9, Nat.zero_le _, rfl, rfl, Kept.refl _ _, Lib.hid (fun x hx => .inl (HSO.out x hx)), Lib.hid (by simpa [resI] using HM.out), Lib.hid (by simpa [resI] using OWX.out)⟩
          case round =>
          clear OWX
          rename World => wz
          obtain ⟨s, A8, m8, c8, hsn, rfl, rfl, hkz, HXO, HM8, OWZ⟩ := hrel
          have hkWz : Kept [] W wz := kept_fresh hkWX hkz HSS.out
          by_cases hlt2 : s < n1
          · have GZ := HGD.out.kept (keptTrans hkW hkWz)
            have gx1 := GZ.1
            have gx2 := (GZ.2 s hlt2).1
            have gx3 := (GZ.2 s hlt2).2.1
            have gx4 := (GZ.2 s hlt2).2.2 ea hea1
            have hsn2 : (s : Int) < (n1 : Int) := by omega
            have ⟨Lyz, Cyz, Fyz⟩ := hkz.blk HYS.out BY.out
            have ⟨L1z, C1z, F1z⟩ := hkz.blk (fun hm => by have h1 := HSS.out _ hm; have h2 := B1'.out.1; omega) (hkX.blk (by simp) B1q.out)
            have hm8 : m8 ≤ 600000000 := by have h1 := HM8.out; rw [List.length_append] at h1; have h2 := resX_len es e n1 eb c k; have h3 : k * n1 ≤ 32768 * 8192 := Nat.mul_le_mul (by omega) hN1; have h4 := resI_len es e c k s; omega
            have hszz : X.heap.size ≤ wz.heap.size := hkz.size
            clear Cy Fy C1x F1x GZ
            cases hb : e s ea with
            | true =>
              rw [hb] at gx4
              have HAB : Hid (pcells (resX es e n1 eb c k ++ resI es e c k (s + 1)) = pcells (resX es e n1 eb c k ++ resI es e c k s) ++ [.int .i64 (s : Int), .int .i64 (cb : Int)]) := Lib.hid (by rw [resI_succ, HEA.out, Int.toNat_natCast, if_pos hb, ← List.append_assoc, pcells_snoc, HCB.out]; rfl)
              have HM2 : Hid (m8 + 1 = (resX es e n1 eb c k ++ resI es e c k (s + 1)).length) := Lib.hid (by rw [resI_succ, HEA.out, Int.toNat_natCast, if_pos hb, ← List.append_assoc, List.length_append, ← HM8.out]; rfl)
              clear hb
              go_upto_region 10 with fail
              refine wp_region_E 7 (fun w' => SX0 wz w') (by kernel_rfl) (by (repeat' first | (with_reducible assumption) | (with_reducible exact SX0.init _) | (with_reducible exact SX0.refl _) | (with_reducible refine SX0.alloc ?_ _) | (with_reducible refine SX0.call ?_ (by assumption)) | (with_reducible refine SX0.set ?_ _ _ _ ?_) | (with_reducible refine SX0.drew ?_) | (simp; done) | omega | (simp; omega))) (fun hHeld => ?_)
              refine WE_take 0 (v := ?_) rfl (by kernel_rfl) (fun _ _ _ h => h) (Or.inl ⟨by rfl, ?_⟩) (by assumption) ?_; rotate_left; (· intro w9 hSw; (try dsimp only at hSw); go_simp; try with_reducible rfl); (try simp only [Act.put, List.setIfInBounds_toArray, List.set_cons_zero, List.set_cons_succ])
              refine WE_take 1 (v := ?_) rfl (by kernel_rfl) (fun _ _ _ h => h) (Or.inl ⟨by rfl, ?_⟩) (by assumption) ?_; rotate_left; (· intro w9 hSw; (try dsimp only at hSw); go_simp; try with_reducible rfl); (try simp only [Act.put, List.setIfInBounds_toArray, List.set_cons_zero, List.set_cons_succ])
              refine WE_take 2 (v := ?_) rfl (by kernel_rfl) (fun _ _ _ h => h) (Or.inl ⟨by rfl, ?_⟩) (by assumption) ?_; rotate_left; (· intro w9 hSw; (try dsimp only at hSw); go_simp; try with_reducible rfl); (try simp only [Act.put, List.setIfInBounds_toArray, List.set_cons_zero, List.set_cons_succ])
              refine WE_take 3 (v := ?_) rfl (by kernel_rfl) (fun _ _ _ h => h) (Or.inl ⟨by rfl, ?_⟩) (by assumption) ?_; rotate_left; (· intro w9 hSw; (try dsimp only at hSw); go_simp; try with_reducible rfl); (try simp only [Act.put, List.setIfInBounds_toArray, List.set_cons_zero, List.set_cons_succ])
              refine WE_take 4 (v := ?_) rfl (by kernel_rfl) (fun _ _ _ h => h) (Or.inl ⟨by rfl, ?_⟩) (by assumption) ?_; rotate_left; (· intro w9 hSw; (try dsimp only at hSw); go_simp; try with_reducible rfl); (try simp only [Act.put, List.setIfInBounds_toArray, List.set_cons_zero, List.set_cons_succ])
              refine WE_take 5 (v := ?_) rfl (by kernel_rfl) (fun _ _ _ h => h) (Or.inl ⟨by rfl, ?_⟩) (by assumption) ?_; rotate_left; (· intro w9 hSw; (try dsimp only at hSw); go_simp; try with_reducible rfl); (try simp only [Act.put, List.setIfInBounds_toArray, List.set_cons_zero, List.set_cons_succ])
              refine WE_take 6 (v := ?_) rfl (by kernel_rfl) (fun _ _ _ h => h) (Or.inl ⟨by rfl, ?_⟩) (by assumption) ?_; rotate_left; (· intro w9 hSw; (try dsimp only at hSw); go_simp; try with_reducible rfl); (try simp only [Act.put, List.setIfInBounds_toArray, List.set_cons_zero, List.set_cons_succ])
              refine WE_last rfl (by kernel_rfl) (fun K hK => ?_)
              go_simp
              refine hK.out _ _ ?_
              clear hK K
              go_wp2_with (first
                | (at_builtin; refine wpList_append_rd _ rfl _ _ 157 rfl W.heap.size 159 i0 (.agg #[.int .i64 0, .int .i64 0]) 2 16 Try.underlying157 hi hz0 hz1 hz2 rfl (by decide) (.slice A8 m8 c8) m8 _ rfl (own_kept2 (X := []) OWZ.out (((Kept.refl [] wz).drew).alloc _) (by simp)) (some ⟨wz.heap.size, 0, none⟩) 1 1 [.int .i64 (s : Int), .int .i64 (cb : Int)] rfl (Rd.new2 _ _ _ _ _ rfl) (fun h => by cases h) (by intro u hu; simp only [List.mem_cons, List.not_mem_nil, or_false] at hu; rcases hu with rfl | rfl <;> rfl) (m8 + 1) rfl _ HAB.out.symm (by unfold maxLen; omega) (by omega) (by simp; omega) ?_; intro A7 c7 w7 hown7 hk7 hat7; have hkA : Kept (Value.slice A8 m8 c8).ownBlock.toList wz w7 := (((Kept.refl _ wz).drew).alloc _).next hk7 (fun y hy => Or.inl hy); have HO7 := Lib.hid hown7; have HKA := Lib.hid hkA; have HAT := Lib.hid hat7; clear hown7 hk7 hat7 hkA)
                | go_in)
              -- MARK5
              exact ⟨⟨s + 1, _, _, _, by omega, rfl, by go_num, hkz.next HKA.out (fun x hx => HXO.out x (by simpa using hx)), Lib.hid (fun x hx => by
                rcases HAT.out x hx with h1 | h1
                · exact HXO.out x h1
                · right; rw [h1]; simp; omega), HM2, HO7⟩, by simp [intOf]; omega⟩
            | false =>
              rw [hb] at gx4
              have HM2 : Hid (resI es e c k (s + 1) = resI es e c k s) := Lib.hid (by rw [resI_succ, HEA.out, Int.toNat_natCast, if_neg (by simp [hb])])
              clear hb
              go_upto_region 10 with fail
              refine wp_region_E 7 (fun w' => SX0 wz w') (by kernel_rfl) (by (repeat' first | (with_reducible assumption) | (with_reducible exact SX0.init _) | (with_reducible exact SX0.refl _) | (with_reducible refine SX0.alloc ?_ _) | (with_reducible refine SX0.call ?_ (by assumption)) | (with_reducible refine SX0.set ?_ _ _ _ ?_) | (with_reducible refine SX0.drew ?_) | (simp; done) | omega | (simp; omega))) (fun hHeld => ?_)
              refine WE_take 0 (v := ?_) rfl (by kernel_rfl) (fun _ _ _ h => h) (Or.inl ⟨by rfl, ?_⟩) (by assumption) ?_; rotate_left; (· intro w9 hSw; (try dsimp only at hSw); go_simp; try with_reducible rfl); (try simp only [Act.put, List.setIfInBounds_toArray, List.set_cons_zero, List.set_cons_succ])
              refine WE_take 1 (v := ?_) rfl (by kernel_rfl) (fun _ _ _ h => h) (Or.inl ⟨by rfl, ?_⟩) (by assumption) ?_; rotate_left; (· intro w9 hSw; (try dsimp only at hSw); go_simp; try with_reducible rfl); (try simp only [Act.put, List.setIfInBounds_toArray, List.set_cons_zero, List.set_cons_succ])
              refine WE_take 2 (v := ?_) rfl (by kernel_rfl) (fun _ _ _ h => h) (Or.inl ⟨by rfl, ?_⟩) (by assumption) ?_; rotate_left; (· intro w9 hSw; (try dsimp only at hSw); go_simp; try with_reducible rfl); (try simp only [Act.put, List.setIfInBounds_toArray, List.set_cons_zero, List.set_cons_succ])
              refine WE_take 3 (v := ?_) rfl (by kernel_rfl) (fun _ _ _ h => h) (Or.inl ⟨by rfl, ?_⟩) (by assumption) ?_; rotate_left; (· intro w9 hSw; (try dsimp only at hSw); go_simp; try with_reducible rfl); (try simp only [Act.put, List.setIfInBounds_toArray, List.set_cons_zero, List.set_cons_succ])
              refine WE_take 4 (v := ?_) rfl (by kernel_rfl) (fun _ _ _ h => h) (Or.inl ⟨by rfl, ?_⟩) (by assumption) ?_; rotate_left; (· intro w9 hSw; (try dsimp only at hSw); go_simp; try with_reducible rfl); (try simp only [Act.put, List.setIfInBounds_toArray, List.set_cons_zero, List.set_cons_succ])
              refine WE_take 5 (v := ?_) rfl (by kernel_rfl) (fun _ _ _ h => h) (Or.inl ⟨by rfl, ?_⟩) (by assumption) ?_; rotate_left; (· intro w9 hSw; (try dsimp only at hSw); go_simp; try with_reducible rfl); (try simp only [Act.put, List.setIfInBounds_toArray, List.set_cons_zero, List.set_cons_succ])
              refine WE_take 6 (v := ?_) rfl (by kernel_rfl) (fun _ _ _ h => h) (Or.inl ⟨by rfl, ?_⟩) (by assumption) ?_; rotate_left; (· intro w9 hSw; (try dsimp only at hSw); go_simp; try with_reducible rfl); (try simp only [Act.put, List.setIfInBounds_toArray, List.set_cons_zero, List.set_cons_succ])
              refine WE_last rfl (by kernel_rfl) (fun K hK => ?_)
              go_simp
              refine hK.out _ _ ?_
              clear hK K
              go_wp2_with fail
              exact ⟨⟨s + 1, A8, m8, c8, by omega, rfl, by go_num, hkz.next ((Kept.refl [] wz).drew) (by simp), HXO, Lib.hid (by rw [HM2.out]; exact HM8.out), Lib.hid (by rw [HM2.out]; exact own_kept2 OWZ.out ((Kept.refl [] wz).drew) (by simp))⟩, by simp [intOf]; omega⟩
          · obtain rfl : n1 = s := by omega
            go_wp2_with fail
            exact ⟨⟨k + 1, A8, m8, c8, by omega, rfl, by go_num, hkWz, Lib.hid (by rw [HXS.out]; exact HM8.out), Lib.hid (by rw [HXS.out]; exact OWZ.out)⟩, by simp [intOf]; omega⟩
        · have HM2 : Hid (resX es e n1 eb c (k + 1) = resX es e n1 eb c k) := Lib.hid (by rw [resX_succ, HRC.out, if_neg (by simp [k3])])
          have q1 : ((eb : Int) != (eb : Int)) = false := by simp
          have q2 : ((ea : Int) != cc0) = true := by simpa using k3
          clear k3
          go_wp2_with fail
          exact ⟨⟨k + 1, A9, m9, c9, by omega, rfl, by go_num, hkWX, Lib.hid (by rw [HM2.out]; exact HM.out), Lib.hid (by rw [HM2.out]; exact OWX.out)⟩, by simp [intOf]; omega⟩
      · have HM2 : Hid (resX es e n1 fr c (k + 1) = resX es e n1 fr c k) := Lib.hid (by rw [resX_succ, HRC.out, if_neg (by simp; omega)])
        have q1 : ((eb : Int) != (fr : Int)) = true := by simp; omega
        clear k2
        go_wp2_with fail
        exact ⟨⟨k + 1, A9, m9, c9, by omega, rfl, by go_num, hkWX, Lib.hid (by rw [HM2.out]; exact HM.out), Lib.hid (by rw [HM2.out]; exact OWX.out)⟩, by simp [intOf]; omega⟩
    · have HM2 : Hid (resX es e n1 fr c (k + 1) = resX es e n1 fr c k) := Lib.hid (by rw [resX_succ, HRC.out, if_neg (by simp [k1])])
      have q1 : (ek != 2) = true := by simpa using k1
      clear k1
      go_wp2_with fail
      exact ⟨⟨k + 1, A9, m9, c9, by omega, rfl, by go_num, hkWX, Lib.hid (by rw [HM2.out]; exact HM.out), Lib.hid (by rw [HM2.out]; exact OWX.out)⟩, by simp [intOf]; omega⟩
  · obtain rfl : n2 = k := by omega
    go_wp2_with fail
    go_returns
    -- MARK6
    refine ⟨A9, m9, c9, rfl, ?_, (kept_fresh hkW hkq (by simp)).toBelow⟩
    have h9 := OWN.out
    rw [HED.out.1]
    exact ⟨h9.1, h9.2.imp id (fun ⟨g, cap, cur, h1, h2, h3⟩ => ⟨g, cap, cur, h1, Nat.le_trans hB.size h2, h3⟩)⟩
end Go.Proofs.Ytffkikhknabddaa
