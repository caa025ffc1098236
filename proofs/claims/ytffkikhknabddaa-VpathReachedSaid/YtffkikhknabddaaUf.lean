/- One look of the search for the reached nodes, with its bounds. No program in sight. -/
import Derived.Test.YtffkikhknabddaaUe
namespace Go.Df
open Go.RowKit
namespace Rc
open Sp If
section
variable {ns : List Nd} {es : List Ed} {m : Int} (hs : superErr ns es m = 0)
include hs
theorem RE.lt {n : Nat} (h : RE es m n) : n < ns.length := by
  cases h with
  | main => have := main_in (sup_parts hs).2.2.1; omega
  | go hk _ _ => have := sup_edge hs hk; omega
  | ret hk _ _ _ => have := sup_edge hs hk; omega
end
/-- The lists of the calls stay short. -/
def Bw (E K N : Nat) (s : Rs) : Prop := meaR N s ≤ 2 * N ∧ ∀ c, (s.w c).length + E * meaR N s ≤ K
def Small (s : Rs) : Prop := s.t.length ≤ 16384 ∧ ∀ c, (s.w c).length ≤ 600000000
theorem Bw.small {E K N : Nat} {s : Rs} (h : Bw E K N s) (hN : N ≤ 8192) (hK : K ≤ 600000000) : Small s := by
  refine ⟨?_, fun c => ?_⟩
  · have h1 := h.1
    unfold meaR at h1
    omega
  · have := h.2 c
    omega
theorem ad_w (s : Rs) (n : Nat) : (ad s n).w = s.w := by
  unfold ad
  split <;> rfl
theorem Bw.ad {E K N : Nat} {s : Rs} (h : Bw E K N s) {n : Nat} (hn : n < N) : Bw E K N (ad s n) := by
  have h1 := mea_ad s hn
  refine ⟨Nat.le_trans h1 h.1, fun c => ?_⟩
  rw [ad_w]
  have h2 := h.2 c
  have h3 := Nat.mul_le_mul_left E h1
  omega
theorem Bw.edg {E K N : Nat} {s : Rs} {es : List Ed} (h : Bw E K N s) {k : Nat} (hk : (ge es k).b.toNat < N) : Bw E (K + 1) N (edg es s k) := by
  unfold Rc.edg
  split
  · refine ⟨h.1, fun c => ?_⟩
    have h2 := h.2 c
    have e : meaR N ⟨s.r, fun x => if x = (ge es k).c.toNat then s.w x ++ [(ge es k).b.toNat] else s.w x, s.t⟩ = meaR N s := rfl
    rw [e]
    dsimp only
    split
    · rw [List.length_append, List.length_singleton]; omega
    · omega
  · have h1 := h.ad hk
    exact ⟨h1.1, fun c => by have := h1.2 c; omega⟩
theorem Bw.edges {E N : Nat} {es : List Ed} : ∀ (l : List Nat) {K : Nat} {s : Rs}, (∀ k ∈ l, (ge es k).b.toNat < N) → Bw E K N s → Bw E (K + l.length) N (l.foldl (Rc.edg es) s)
  | [], _, _, _, h => h
  | k :: l, K, s, hl, h => by
    have := Bw.edges l (fun x hx => hl x (by simp [hx])) (h.edg (hl k (by simp)))
    rw [List.length_cons, show K + (l.length + 1) = K + 1 + l.length by omega]
    exact this
theorem Bw.adds {E K N : Nat} : ∀ (l : List Nat) {s : Rs}, (∀ n ∈ l, n < N) → Bw E K N s → Bw E K N (l.foldl Rc.ad s)
  | [], _, _, h => h
  | k :: l, _, hl, h => Bw.adds l (fun x hx => hl x (by simp [hx])) (h.ad (hl k (by simp)))
theorem Bw.popd {E K N n : Nat} {s : Rs} {l : List Nat} (h : Bw E K N s) (ht : s.t = l ++ [n]) : Bw E (K - E) N (popd s) ∧ E ≤ K := by
  have h1 := mea_popd (N := N) ht
  have h3 : E * meaR N s = E * meaR N (Rc.popd s) + E := by rw [← h1, Nat.mul_succ]
  refine ⟨⟨by have := h.1; omega, fun c => ?_⟩, ?_⟩
  · have h2 := h.2 c
    have e : (Rc.popd s).w = s.w := rfl
    rw [e]
    omega
  · have h2 := h.2 0
    omega
theorem Bw.init (E N : Nat) {m : Int} (hm : m.toNat < N) : Bw E (E * (2 * N)) N (rs0 m) := by
  have h0 : meaR N ⟨fun _ => false, fun _ => [], []⟩ = 2 * N := by
    unfold meaR
    simp
  refine Bw.ad ⟨by rw [h0]; exact Nat.le_refl _, fun c => ?_⟩ hm
  rw [h0]
  simp
/-- The state after all edges of a node. -/
def after (es : List Ed) (s : Rs) (n : Nat) : Rs := (outE es n).foldl (edg es) (popd s)
theorem outE_len (es : List Ed) (n : Nat) : (outE es n).length ≤ es.length := by
  unfold outE
  exact Nat.le_trans (List.length_filter_le _ _) (by simp)
theorem LO_all (es : List Ed) (n : Nat) : LO es es.length n = ofNats (outE es n) := rfl
theorem take_fold {β : Type} (f : β → Nat → β) (s : β) {l : List Nat} {j : Nat} (h : j < l.length) : (l.take (j + 1)).foldl f s = f ((l.take j).foldl f s) l[j] := by
  rw [List.take_add_one, List.getElem?_eq_getElem h, List.foldl_append]
  rfl
theorem edg_wait {es : List Ed} {s : Rs} {k c b : Nat} (h3 : (ge es k).k = 3 ∨ (ge es k).k = 4) (hc : (ge es k).c = (c : Int)) (hb : (ge es k).b = (b : Int)) (hr : s.r c = false) : edg es s k = ⟨s.r, fun x => if x = c then s.w c ++ [b] else s.w x, s.t⟩ := by
  have h1 : retE es k = true := by unfold retE; simpa using h3
  unfold edg
  rw [hc, hb, Int.toNat_natCast, Int.toNat_natCast, if_pos ⟨h1, hr⟩]
  congr 1
  funext x
  by_cases e : x = c
  · subst e; simp
  · simp [e]
theorem edg_ad {es : List Ed} {s : Rs} {k b : Nat} (hb : (ge es k).b = (b : Int)) (h : ∀ c : Nat, ((ge es k).k = 3 ∨ (ge es k).k = 4) → (ge es k).c.toNat = c → s.r c = true) : edg es s k = ad s b := by
  unfold edg
  rw [hb, Int.toNat_natCast, if_neg]
  rintro ⟨h1, h2⟩
  have h3 : (ge es k).k = 3 ∨ (ge es k).k = 4 := by unfold retE at h1; simpa using h1
  rw [h _ h3 rfl] at h2
  cases h2
theorem adds_w : ∀ (l : List Nat) (s : Rs), (l.foldl ad s).w = s.w
  | [], _ => rfl
  | x :: l, s => (adds_w l _).trans (ad_w s x)
/-- What one look needs and gives. -/
structure LookF (es : List Ed) (m : Int) (N : Nat) (s : Rs) (n : Nat) : Prop where
  lt : n < N
  edges : ∀ j, Small (((outE es n).take j).foldl (edg es) (popd s))
  adds : ∀ j, Small ((((after es s n).w n).take j).foldl ad (after es s n))
  mem : ∀ b ∈ (after es s n).w n, b < N
  ri : Ri es m (look es (popd s) n) (fun _ => False)
  bw : Bw es.length (es.length * (2 * N)) N (look es (popd s) n)
  mea : meaR N (look es (popd s) n) + 1 ≤ meaR N s
theorem look_facts {ns : List Nd} {es : List Ed} {m : Int} (hs : superErr ns es m = 0) {N : Nat} (hN : N = ns.length) {s : Rs} {n : Nat} {l : List Nat} (h : Ri es m s (fun _ => False)) (hb : Bw es.length (es.length * (2 * N)) N s) (ht : s.t = l ++ [n]) : LookF es m N s n := by
  have hr : s.r n = true := h.tr n (by rw [ht]; simp)
  have hn : n < N := by rw [hN]; exact (h.snd n hr).lt hs
  obtain ⟨h8, h3, _, _⟩ := sup_parts hs
  have hN8 : N ≤ 8192 := by omega
  have hK : es.length * (2 * N) ≤ 32768 * (2 * 8192) := Nat.mul_le_mul h3 (by omega)
  obtain ⟨hp, hE⟩ := hb.popd ht
  have hbk : ∀ k, k < es.length → (ge es k).b.toNat < N := fun k hk => by have := sup_edge hs hk; omega
  have hri := h.pop ht
  have hlen := outE_len es n
  have ha : Ri es m (after es s n) (fun x => x = n) := edges_ri _ (fun k hk => outE_mem.1 hk) hri hr
  have har : (after es s n).r n = true := (foldr_lr (edg_lr es) (outE es n) (popd s)).r n hr
  have hmem : ∀ b ∈ (after es s n).w n, b < N := fun b hb' => by
    rw [hN]
    exact (ha.ws n b hb' (ha.snd n har)).lt hs
  have hba : Bw es.length (es.length * (2 * N)) N (after es s n) := by
    have h1 := Bw.edges (outE es n) (fun k hk => hbk k (outE_mem.1 hk).1) hp
    exact ⟨h1.1, fun c => by have := h1.2 c; unfold after; omega⟩
  have hma : meaR N (after es s n) ≤ meaR N (popd s) := mea_edges _ _ (fun k hk => hbk k (outE_mem.1 hk).1)
  have hml : meaR N (look es (popd s) n) ≤ meaR N (after es s n) := mea_adds _ _ hmem
  refine ⟨hn, fun j => ?_, fun j => ?_, hmem, hri.look (fun k hk => (sup_edge hs hk).1) hr, ?_, ?_⟩
  · have h1 := Bw.edges ((outE es n).take j) (fun k hk => hbk k (outE_mem.1 (List.mem_of_mem_take hk)).1) hp
    exact h1.small hN8 (by rw [List.length_take]; omega)
  · exact (Bw.adds _ (fun b hb' => hmem b (List.mem_of_mem_take hb')) hba).small hN8 (by omega)
  · exact Bw.adds _ hmem hba
  · have := mea_popd (N := N) ht
    omega
end Rc
end Go.Df
