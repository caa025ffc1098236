/- Texts: Pc Lr In Ma Mc. -/
import Derived.Test.YtooejoajojanjaaGreatDoorXSf03
import Derived.Lib.Split
import Derived.Lib.SplitLaws
import Derived.Test.YtooejoajojanjaaGreatDoorXSf01
import Derived.ProofKit
import Derived.Lib.SmallJoins
import Derived.Deep.Slices
import Derived.Laws.Bits64b
import Derived.Laws.MakeOwn
import Derived.Maps.Own
import Derived.Maps.OwnSet
import Derived.Maps.Views
import Derived.DeepKeys4
import Derived.MapViews
namespace Go.Df
open Go.RowKit
namespace If
open Sp
theorem idx_no {c : UInt8} : ∀ {s : Bs}, (∀ x ∈ s, x ≠ c) → Lib.index s [c] = -1
 | [], _ => rfl
 | b :: s, h => by
   have h1 : b ≠ c := h b (by simp)
   have h2 := idx_no (s := s) fun x hx => h x (List.mem_cons_of_mem _ hx)
   unfold Lib.index
   rw [if_neg (by simp [List.isPrefixOf]; exact fun e => h1 e.symm), h2]
   rfl
theorem idx_at {c : UInt8} {r : Bs} : ∀ {w : Bs}, (∀ x ∈ w, x ≠ c) → Lib.index (w ++ c :: r) [c] = w.length
 | [], _ => by
   show Lib.index (c :: r) [c] = _
   unfold Lib.index
   rw [if_pos (by simp [List.isPrefixOf])]
   rfl
 | b :: w, h => by
   have h1 : b ≠ c := h b (by simp)
   have h2 := idx_at (r := r) (w := w) fun x hx => h x (List.mem_cons_of_mem _ hx)
   show Lib.index (b :: (w ++ c :: r)) [c] = _
   unfold Lib.index
   rw [if_neg (by simp [List.isPrefixOf]; exact fun e => h1 e.symm), h2, if_neg (by simp)]
   simp
theorem mem_cut {c : UInt8} : ∀ {s : Bs}, c ∈ s → ∃ w r, s = w ++ c :: r ∧ ∀ x ∈ w, x ≠ c
 | [], h => by cases h
 | b :: s, h => by
   by_cases e : b = c
   · subst e; exact ⟨[], s, rfl, by simp⟩
   · rcases List.mem_cons.1 h with h | h
     · exact absurd h.symm e
     · obtain ⟨w, r, rfl, h1⟩ := mem_cut h
       refine ⟨b :: w, r, rfl, fun x hx => ?_⟩
       rcases List.mem_cons.1 hx with h | h
       · rw [h]; exact e
       · exact h1 x h
theorem splK_splW : ∀ (n : Nat) (s : Bs), s.length ≤ n → Lib.splitK [32] 0 (Lib.count s [32]) s = splW s := by
 intro n
 induction n with
 | zero =>
   intro s h
   obtain rfl := List.length_eq_zero_iff.1 (Nat.le_zero.1 h)
   rfl
 | succ n ih =>
   intro s h
   by_cases hm : (32 : UInt8) ∈ s
   · obtain ⟨w, r, rfl, hw⟩ := mem_cut hm
     have hi := idx_at (r := r) hw
     have hd : (w ++ 32 :: r).drop (w.length + 1) = r := by
       rw [show w.length + 1 = (w ++ [(32 : UInt8)]).length by simp, show w ++ 32 :: r = (w ++ [32]) ++ r by simp, List.drop_left]
     have hc := Lib.count_hit (sub := [32]) (by simp) hi
     rw [show w.length + [(32 : UInt8)].length = w.length + 1 from rfl, hd] at hc
     rw [hc, Nat.add_comm, Lib.splitK, hi, if_neg (by simp), spl_app hw, Int.toNat_natCast, Nat.add_zero]
     rw [show w.length + [(32 : UInt8)].length = w.length + 1 from rfl, hd, List.take_left, ih r (by simp at h; omega)]
   · have hw : ∀ x ∈ s, x ≠ 32 := fun x hx e => hm (e ▸ hx)
     rw [Lib.count_miss (idx_no hw), spl_one hw]
     rfl
theorem cutN_none : ∀ {s : Bs}, cutN s = none → ∀ x ∈ s, x ≠ 10
 | [], _, x, hx => by cases hx
 | c :: s, h, x, hx => by
   unfold cutN at h
   split at h
   · cases h
   · rename_i hc
     have h1 : cutN s = none := by simpa using h
     rcases List.mem_cons.1 hx with e | e
     · rw [e]; exact hc
     · exact cutN_none h1 x e
theorem cutN_no : ∀ {s a r : Bs}, cutN s = some (a, r) → ∀ x ∈ a, x ≠ 10
 | [], _, _, h => by cases h
 | c :: s, a, r, h => by
   unfold cutN at h
   split at h
   · cases h
     simp
   · rename_i hc
     cases hs : cutN s with
     | none => rw [hs] at h; cases h
     | some p =>
       rw [hs] at h
       obtain ⟨a', r'⟩ := p
       simp at h
       obtain ⟨rfl, rfl⟩ := h
       intro x hx
       rcases List.mem_cons.1 hx with e | e
       · rw [e]; exact hc
       · exact cutN_no hs x e
theorem cut_is (s : Bs) : Lib.cut s [10] = match cutN s with | none => (s, [], false) | some (a, r) => (a, r, true) := by
 cases h : cutN s with
 | none =>
   have hi := idx_no (cutN_none h)
   unfold Lib.cut
   rw [hi]
   rfl
 | some p =>
   obtain ⟨a, r⟩ := p
   have hl := cutN_len h
   have hi : Lib.index s [10] = a.length := by rw [hl]; exact idx_at (cutN_no h)
   unfold Lib.cut
   rw [hi, if_pos (by omega), Int.toNat_natCast]
   have hd : s.drop (a.length + [(10 : UInt8)].length) = r := by
     rw [hl, show a.length + [(10 : UInt8)].length = (a ++ [(10 : UInt8)]).length by simp, show a ++ 10 :: r = (a ++ [10]) ++ r by simp, List.drop_left]
   rw [hd]
   congr 1
   rw [hl, List.take_left]
/-! ### What Check says of a list that has grown by one line -/
theorem fn_bd {K R R' : List Su} {u u' : Su} (h : u.f = u'.f) : fnErr (K ++ u :: R) K.length = fnErr (K ++ u' :: R') K.length := by
 unfold fnErr
 rw [gS_at, gS_at, h]
 by_cases h0 : 0 < K.length
 · rw [gS_app (show K.length - 1 < K.length by omega), gS_app (show K.length - 1 < K.length by omega)]
 · have e : ∀ P : Prop, (0 < K.length ∧ P) ↔ False := fun P => ⟨fun h => h0 h.1, False.elim⟩
   simp only [e]
theorem su_pre {F : Int} {K R : List Su} (h : sumErr F (K ++ R) = 0) {R' : List Su} : ∀ i, i < K.length → suErr F (K ++ R') i = 0 := fun i hi => by
 have h9 := (sum_ok.1 h).2.2 i (by simp; omega)
 rw [fn_app hi, gS_app hi] at h9
 refine su_ok.2 ?_
 rw [fn_app hi, gS_app hi]
 exact h9
theorem ls_nil (F : Int) : lsErr F [] = 0 := rfl
theorem sum_snocF {L : List Su} {n : Int} (h : sumErr 1024 L = 0) : sumErr 1024 (L ++ [⟨n, [], []⟩]) = if 256 < L.length + 1 then 3 else fnErr (L ++ [⟨n, [], []⟩]) L.length := by
 have h0 : sumErr 1024 (L ++ []) = 0 := by rw [List.append_nil]; exact h
 unfold sumErr
 rw [if_neg (by omega), List.length_append, List.length_singleton]
 split
 · rfl
 · rw [fe_last (su_pre h0)]
   unfold suErr
   rw [gS_at, ls_nil]
   by_cases h9 : fnErr (L ++ [⟨n, [], []⟩]) L.length = 0
   · rw [if_neg (not_not_intro h9), if_neg (not_not_intro rfl), h9]
   · rw [if_pos h9]
theorem ls_snoc {F : Int} {l : List Pr} {p : Pr} (h : lsErr F l = 0) : lsErr F (l ++ [p]) = if 8192 < l.length + 1 then 3 else prErr F (l ++ [p]) l.length := by
 unfold lsErr
 rw [List.length_append, List.length_singleton]
 split
 · rfl
 · exact fe_last fun i hi => by rw [pr_app hi]; exact (ls_ok.1 h).2 i hi
theorem sum_addX {K : List Su} {f : Int} {x : List Pr} {p : Pr} (h : sumErr 1024 (K ++ [⟨f, x, []⟩]) = 0) : sumErr 1024 (K ++ [⟨f, x ++ [p], []⟩]) = if 8192 < x.length + 1 then 3 else prErr 1024 (x ++ [p]) x.length := by
 obtain ⟨h1, h2, h3⟩ := sum_ok.1 h
 have h9 := h3 K.length (by simp)
 rw [gS_at] at h9
 have hl : (K ++ [⟨f, x ++ [p], []⟩] : List Su).length = K.length + 1 := by simp
 unfold sumErr
 rw [if_neg (by omega), hl, if_neg (by simp at h2; omega), fe_last (su_pre h), ← ls_snoc h9.2.1]
 have e9 : fnErr (K ++ [⟨f, x ++ [p], []⟩]) K.length = 0 := (fn_bd (R := []) (u := ⟨f, x ++ [p], []⟩) (u' := ⟨f, x, []⟩) (R' := []) rfl).trans h9.1
 unfold suErr
 rw [gS_at, if_neg (not_not_intro e9)]
 dsimp only
 rw [ls_nil]
 by_cases h8 : lsErr 1024 (x ++ [p]) = 0
 · rw [if_neg (not_not_intro h8), h8]
 · rw [if_pos h8]
theorem sum_addY {K : List Su} {f : Int} {x y : List Pr} {p : Pr} (h : sumErr 1024 (K ++ [⟨f, x, y⟩]) = 0) : sumErr 1024 (K ++ [⟨f, x, y ++ [p]⟩]) = if 8192 < y.length + 1 then 3 else prErr 1024 (y ++ [p]) y.length := by
 obtain ⟨h1, h2, h3⟩ := sum_ok.1 h
 have h9 := h3 K.length (by simp)
 rw [gS_at] at h9
 have hl : (K ++ [⟨f, x, y ++ [p]⟩] : List Su).length = K.length + 1 := by simp
 unfold sumErr
 rw [if_neg (by omega), hl, if_neg (by simp at h2; omega), fe_last (su_pre h), ← ls_snoc h9.2.2]
 have e9 : fnErr (K ++ [⟨f, x, y ++ [p]⟩]) K.length = 0 := (fn_bd (R := []) (u := ⟨f, x, y ++ [p]⟩) (u' := ⟨f, x, y⟩) (R' := []) rfl).trans h9.1
 unfold suErr
 rw [gS_at, if_neg (not_not_intro e9)]
 dsimp only
 rw [if_neg (not_not_intro h9.2.1)]
end If
end Go.Df
namespace Go.Df
open Go.RowKit Go.ChangeShapes Go.WideShapes
theorem mapM_later {α β : Type} {f g : α → Option β} : ∀ {l : List α} {r : List β}, (∀ a ∈ l, ∀ b, f a = some b → g a = some b) → l.mapM f = some r → l.mapM g = some r
 | [], r, _, h => h
 | a :: l, r, hfg, h => by
   rw [List.mapM_cons] at h ⊢
   cases ha : f a with
   | none => simp [ha] at h
   | some b =>
     cases hl : l.mapM f with
     | none => simp [ha, hl] at h
     | some bs =>
       rw [hfg a (by simp) b ha, mapM_later (fun x hx => hfg x (by simp [hx])) hl]
       simpa [ha, hl] using h
theorem block_add (a : Addr) (n : Nat) : (a.add n).block = a.block := by unfold Addr.add; split <;> rfl
theorem cell_lt {w : World} {p : Addr} {v : Value} (h : w.cell? p = some v) : p.block < w.heap.size := by
 rcases Nat.lt_or_ge p.block w.heap.size with h1 | h1
 · exact h1
 · simp [World.cell?, Array.getElem?_eq_none h1] at h
section
variable {H : Type} {enc : TypeId × Value → H} {P : Program} {w w' : World} {base : Nat} {held : Bool}
theorem cells_later (hb : ∀ b, b < w.heap.size → w'.heap[b]? = w.heap[b]?) {a : Addr} {n : Nat} {cs : List Value} (h : w.cells? base a n = some cs) : w'.cells? base a n = some cs := by
 unfold World.cells? at h ⊢
 split at h
 · rename_i h1
   rw [if_pos h1]
   refine mapM_later (fun i _ v hv => ?_) h
   rw [World.cell?_of_block (w := w) (hb _ (cell_lt hv))]; exact hv
 · cases h
theorem cells_lt {a : Addr} {n : Nat} {cs : List Value} (h : w.cells? base a n = some cs) (hn : 0 < n) : a.block < w.heap.size := by
 unfold World.cells? at h
 split at h
 · obtain ⟨m, rfl⟩ : ∃ m, n = m + 1 := ⟨n - 1, by omega⟩
   rw [List.range_succ_eq_map, List.mapM_cons] at h
   cases hv : w.cell? (a.add 0) with
   | none => simp [hv] at h
   | some v => have := cell_lt hv; rwa [block_add] at this
 · cases h
theorem bind_map {α β γ : Type} {o : Option α} {g : α → Option β} {f : β → γ} {x : γ} (h : (o.bind g).map f = some x) : ∃ c y, o = some c ∧ g c = some y ∧ f y = x := by
 cases o with
 | none => simp at h
 | some c =>
   cases hg : g c with
   | none => simp [hg] at h
   | some y => exact ⟨c, y, rfl, hg, by simpa [hg] using h⟩
theorem map_some {β γ : Type} {o : Option β} {f : β → γ} {x : γ} (h : o.map f = some x) : ∃ y, o = some y ∧ f y = x := by
 cases o with
 | none => simp at h
 | some y => exact ⟨y, rfl, by simpa using h⟩
def closedB (P : Program) (N : Nat) (t : TypeId) : Bool :=
 match P.underlying t with
 | some (.slice e) => decide (e < N) && decide (0 < P.cellsOf e)
 | some (.pointer e) => decide (e < N)
 | some (.struct fs) => fs.toList.all (fun f => decide (f.type < N))
 | some (.array _ e) => decide (e < N)
 | some (.map _ e) => decide (e < N)
 | _ => true
set_option maxHeartbeats 1000000 in
/-- What reads as a datum reads so in a later world. -/
theorem trod_later {N : Nat} (hz : (List.range N).all (closedB P N) = true) (hb : ∀ b, b < w.heap.size → w'.heap[b]? = w.heap[b]?) :
   ∀ (fuel : Nat) (t : TypeId) (cs : List Value) (x : DataW H × List MemPlace), t < N → DataW.trod enc P w base (fun _ => true) true fuel t cs = some x → DataW.trod enc P w' base (fun b => decide (b < w.heap.size)) true fuel t cs = some x := by
 rw [List.all_eq_true] at hz
 intro fuel
 induction fuel with
 | zero => intro t cs x _ h; simp [DataW.trod] at h
 | succ fuel ih =>
   intro t cs x htN h
   have hcl := hz t (by simpa using htN)
   unfold closedB at hcl
   unfold DataW.trod at h ⊢
   split at h
   all_goals (try exact h)
   · rename_i e a heq
     rw [heq] at hcl
     obtain ⟨c, y, hc, hy, rfl⟩ := bind_map h
     rw [cells_later hb hc]
     simp only [Option.bind_some]
     rw [ih _ _ _ (by simpa using hcl) hy]; rfl
   · rename_i e a len cap heq
     rw [heq] at hcl
     simp only [Bool.and_eq_true, decide_eq_true_eq] at hcl
     have he := hcl.2
     dsimp only at h ⊢
     by_cases hc : base ≤ a.block ∧ len ≤ cap ∧ cap ≤ maxLen
     · rw [if_pos hc] at h ⊢
       have hel : ∀ i y, (w.cells? base (a.add (i * P.cellsOf e)) (P.cellsOf e)).bind (DataW.trod enc P w base (fun _ => true) true fuel e) = some y → (w'.cells? base (a.add (i * P.cellsOf e)) (P.cellsOf e)).bind (DataW.trod enc P w' base (fun b => decide (b < w.heap.size)) true fuel e) = some y ∧ a.block < w.heap.size := by
         intro i y hy
         cases hcs : w.cells? base (a.add (i * P.cellsOf e)) (P.cellsOf e) with
         | none => simp [hcs] at hy
         | some c =>
           rw [hcs] at hy
           rw [cells_later hb hcs]
           refine ⟨ih _ _ _ hcl.1 hy, ?_⟩
           have := cells_lt hcs he
           rwa [block_add] at this
       cases h1 : (List.range len).mapM (fun i => (w.cells? base (a.add (i * P.cellsOf e)) (P.cellsOf e)).bind (DataW.trod enc P w base (fun _ => true) true fuel e)) with
       | none => rw [h1] at h; simp at h
       | some elems =>
         rw [h1] at h
         rw [mapM_later (fun i _ y hy => (hel i y hy).1) h1]
         simp only [Option.bind_some, if_true] at h ⊢
         obtain ⟨rest, hr, rfl⟩ := map_some h
         have hr' : (if decide (a.block < w.heap.size) = true then (List.range (cap - len)).mapM (fun j => (w'.cells? base (a.add ((len + j) * P.cellsOf e)) (P.cellsOf e)).bind (DataW.trod enc P w' base (fun b => decide (b < w.heap.size)) true fuel e)) else some []) = some rest := by
           by_cases hlt : a.block < w.heap.size
           · rw [if_pos (by simpa using hlt)]
             exact mapM_later (fun j _ y hy => (hel (len + j) y hy).1) hr
           · rw [if_neg (by simpa using hlt)]
             rcases Nat.eq_zero_or_pos (cap - len) with h0 | h0
             · rw [h0] at hr; simpa using hr
             · exfalso
               obtain ⟨m, hm⟩ : ∃ m, cap - len = m + 1 := ⟨cap - len - 1, by omega⟩
               rw [hm, List.range_succ_eq_map, List.mapM_cons] at hr
               cases hv : (w.cells? base (a.add ((len + 0) * P.cellsOf e)) (P.cellsOf e)).bind (DataW.trod enc P w base (fun _ => true) true fuel e) with
               | none => simp only [hv] at hr; simp at hr
               | some y => exact hlt (hel (len + 0) y hv).2
         rw [hr']; rfl
     · rw [if_neg hc] at h; cases h
   · rename_i fs heq
     split at h
     · rename_i hc
       rw [if_pos hc]
       obtain ⟨ys, hy, rfl⟩ := map_some h
       rw [heq] at hcl
       rw [mapM_later (fun f hf y hy => ih _ _ _ (by have := List.all_eq_true.1 hcl f hf; simpa using this) hy) hy]; rfl
     · cases h
   · rename_i n e heq
     split at h
     · rename_i hc
       rw [if_pos hc]
       obtain ⟨ys, hy, rfl⟩ := map_some h
       rw [heq] at hcl
       rw [mapM_later (fun f _ y hy => ih _ _ _ (by simpa using hcl) hy) hy]; rfl
     · cases h
   · rename_i k e b heq
     rw [heq] at hcl
     cases hm : w.heap[b]? with
     | none => simp [hm] at h
     | some o =>
       rw [hb b (by
         rcases Nat.lt_or_ge b w.heap.size with h1 | h1
         · exact h1
         · rw [Array.getElem?_eq_none h1] at hm; cases hm), hm]
       rw [hm] at h
       cases o with
       | map es clock =>
         dsimp only at h ⊢
         split at h
         · rename_i hc
           rw [if_pos hc]
           cases h1 : es.toList.mapM (fun x => (keyOf P k x.key).bind fun key => if x.val.formed P e then (DataW.trod enc P w base (fun _ => true) true fuel e x.val.cells.toList).map fun y => ((key, y.1), y.2) else none) with
           | none => rw [h1] at h; simp at h
           | some entries =>
             rw [h1] at h
             rw [mapM_later (fun x _ y hy => ?_) h1]
             · exact h
             · cases hk : keyOf P k x.key with
               | none => simp [hk] at hy
               | some key =>
                 rw [hk] at hy
                 simp only [Option.bind_some] at hy ⊢
                 split at hy
                 · rename_i hf
                   rw [if_pos hf]
                   obtain ⟨z, hz', rfl⟩ := map_some hy
                   rw [ih _ _ _ (by simpa using hcl) hz']; rfl
                 · cases hy
         · cases h
       | _ => simp at h
theorem trodAll_later {N : Nat} (hz : (List.range N).all (closedB P N) = true) (hb : ∀ b, b < w.heap.size → w'.heap[b]? = w.heap[b]?) :
   ∀ {ts : List TypeId} {vs : List Value} {ds : List (DataW H)} {ps : List MemPlace}, (∀ t ∈ ts, t < N) → DataW.TrodAll enc P w base (fun _ => true) true ts vs ds ps → DataW.TrodAll enc P w' base (fun b => decide (b < w.heap.size)) true ts vs ds ps
 | [], [], [], _, _, h => h
 | _ :: _, _ :: _, _ :: _, _, ht, ⟨p, q, ⟨fuel, h1⟩, h2, h3⟩ => ⟨p, q, ⟨fuel, trod_later hz hb fuel _ _ _ (ht _ (by simp)) h1⟩, trodAll_later hz hb (fun t h => ht t (by simp [h])) h2, h3⟩
theorem post_true {f : Func} {s : ChangeSpec} {fresh handsOn : Bool} {W W' : World} {args : Array Value} {ds gs : List (DataW H)} {before : List MemPlace} {tb : TypeId}
   {N : Nat} (hz : (List.range N).all (closedB P N) = true) (hpN : f.params.toList.all (fun t => decide (t < N)) = true) (htb : P.underlying tb = some .bool) (hrt : f.resultTypes = #[tb]) (hv : s.vars = [])
   (hs : s.fn H ds = { results := [.lit (.bool true)], args := ds })
   (hW : DataW.Whole enc P f.params.toList s.vars false W args.toList ds gs before) (hb : Below W.heap.size W W') : s.post enc P f false fresh handsOn false W args (.bool true) W' := by
 have hW' := hW
 obtain ⟨p, q, hA, hV, hp, _, _⟩ := hW
 rw [hv] at hV
 obtain ⟨rfl, rfl⟩ := trodVars_none hV
 refine ⟨ds, [], before, [], p, [], hW', ?_, ?_, ?_, hb.frame _, fun h => by cases h⟩
 · rw [hrt, List.append_nil, hs]
   exact trodAll_mk1 (shut_bool htb true)
 · rw [List.append_nil, hs]
   exact trodAll_later hz (fun b hlt => hb.block b hlt) (fun t ht => by have := List.all_eq_true.1 hpN t ht; simpa using this) hA
 · rw [hv, List.append_nil, hs]
   rfl
theorem open_SIn {t e : TypeId} {fuel : Nat} {v : Value} {x : DataW H × List MemPlace} (ht : P.underlying t = some (.slice e)) (he : P.underlying e = some (.int .i64)) (hC : P.cellsOf e = 1)
   (h : DataW.trod enc P w base (fun _ => true) held fuel t [v] = some x) : ∃ A n c xs, v = .slice A n c ∧ SIn w A n c xs ∧ Fit xs := by
 rcases Go.Deep.open_slice ht h with ⟨h0, _⟩ | ⟨a, len, cap, m, n, D, Pl, hcs, hbb, hl, hm, hmm, hx, hi⟩
 · injection h0 with h0
   exact ⟨none, 0, 0, [], h0, SIn.nil w, fun x hx => by cases hx⟩
 · injection hcs with hcs
   subst hcs
   have hread : ∀ i, i < len → ∃ k : Int, w.cell? (a.add i) = some (.int .i64 k) ∧ -9223372036854775808 ≤ k ∧ k ≤ 9223372036854775807 := by
     intro i hil
     obtain ⟨cs', hc, ht'⟩ := hi i (by rw [hmm]; simp; omega)
     rw [hC] at hc
     obtain ⟨k, hk, _, wk⟩ := DataW.trod_int he ht'
     subst hk
     have hbd := bounds_i64 wk
     refine ⟨k, ?_, by omega, by omega⟩
     unfold World.cells? at hc
     split at hc
     · have e1 : (a.add (i * 1)).add 0 = a.add i := by simp [Addr.add]
       rw [show List.range 1 = [0] from rfl, List.mapM_cons, e1] at hc
       cases hv : w.cell? (a.add i) with
       | none => rw [hv] at hc; simp at hc
       | some u =>
         rw [hv] at hc
         simp at hc
         rw [hc]
     · cases hc
   have hex : ∃ f : Nat → Int, ∀ i, i < len → w.cell? (a.add i) = some (.int .i64 (f i)) ∧ -9223372036854775808 ≤ f i ∧ f i ≤ 9223372036854775807 :=
     ⟨fun i => if hil : i < len then (hread i hil).choose else 0, fun i hil => by simp only [dif_pos hil]; exact (hread i hil).choose_spec⟩
   obtain ⟨f, hf⟩ := hex
   refine ⟨some a, len, cap, (List.range len).map f, rfl, ⟨⟨by simp, fun hp => ?_⟩, hl, by unfold maxLen at hm; omega, fun h => by cases h⟩, ?_⟩
   · obtain ⟨b, o, sp⟩ := a
     have h0 := (hf 0 hp).1
     have hsp : sp = none := by
       cases sp with
       | none => rfl
       | some s =>
         exfalso
         simp only [World.cell?, Addr.add] at h0
         split at h0 <;> simp at h0
     subst hsp
     refine ⟨b, o, rfl, cell_lt (p := ⟨b, o, none⟩) (by have h9 := h0; rw [add_lit] at h9; exact h9), fun i hil => ?_⟩
     rw [← add_lit, (hf i hil).1, gi_lt (by simpa using hil)]
     simp
   · intro x hx
     simp at hx
     obtain ⟨i, hil, rfl⟩ := hx
     exact (hf i hil).2
end
end Go.Df
namespace Go.Df
open Go.RowKit
def gw (l : List Nat) (i : Nat) : Nat := l.getD i 0
theorem gw_lt {l : List Nat} {i : Nat} (h : i < l.length) : gw l i = l[i] := by simp [gw, h]
theorem gw_ge {l : List Nat} {i : Nat} (h : l.length ≤ i) : gw l i = 0 := by simp [gw, h]
def hasB (l : List Nat) (x : Nat) : Bool := (gw l (x / 64)).testBit (x % 64)
def Bts (w : World) (A : Option Addr) (n : Nat) (l : List Nat) : Prop :=
 l.length = n ∧ (∀ i, gw l i < 18446744073709551616) ∧ (0 < n → ∃ b o, A = some ⟨b, o, none⟩ ∧ b < w.heap.size ∧ ∀ i, i < n → w.cell? ⟨b, o + i, none⟩ = some (.int .u64 (gw l i)))
theorem Bts.keptX {X : List Nat} {w w' : World} {A : Option Addr} {n : Nat} {l : List Nat} (h : Bts w A n l) (hk : Kept X w w') (hx : 0 < n → ∀ a, A = some a → a.block ∉ X) : Bts w' A n l :=
 ⟨h.1, h.2.1, fun hn => by
   obtain ⟨b, o, e, hl, hc⟩ := h.2.2 hn
   exact ⟨b, o, e, Nat.lt_of_lt_of_le hl hk.size, fun i hi => (hk.cell b (o + i) hl (hx hn _ e)).trans (hc i hi)⟩⟩
theorem Bts.kept {w w' : World} {A : Option Addr} {n : Nat} {l : List Nat} (h : Bts w A n l) (hk : Kept [] w w') : Bts w' A n l := h.keptX hk (by simp)
theorem Bts.later {w w' : World} {A : Option Addr} {n : Nat} {l : List Nat} (h : Bts w A n l) (hb : Below w.heap.size w w') : Bts w' A n l := h.kept ((Kept.refl _ _).call hb)
theorem Bts.nil (w : World) : Bts w none 0 [] := ⟨rfl, fun i => by simp [gw], fun h => absurd h (by omega)⟩
theorem hasB_nil (x : Nat) : hasB [] x = false := by simp [hasB, gw]
theorem hasB_ge {l : List Nat} {x : Nat} (h : l.length * 64 ≤ x) : hasB l x = false := by
 unfold hasB
 rw [gw_ge (by omega)]
 simp
theorem hasB_lt {l : List Nat} {x : Nat} (h : hasB l x = true) : x < l.length * 64 := by
 rcases Nat.lt_or_ge x (l.length * 64) with h1 | h1
 · exact h1
 · rw [hasB_ge h1] at h; cases h
theorem hasB_take {l : List Nat} {n : Nat} (h : ∀ i, n ≤ i → i < l.length → gw l i = 0) (x : Nat) : hasB (l.take n) x = hasB l x := by
 unfold hasB
 rcases Nat.lt_or_ge (x / 64) n with h1 | h1
 · have : gw (l.take n) (x / 64) = gw l (x / 64) := by simp [gw, h1]
   rw [this]
 · rw [gw_ge (by rw [List.length_take]; omega)]
   rcases Nat.lt_or_ge (x / 64) l.length with h2 | h2
   · rw [h _ h1 h2]
   · rw [gw_ge h2]
theorem gw_take {l : List Nat} {n i : Nat} (h : i < n) : gw (l.take n) i = gw l i := by simp [gw, h]
def setB (l : List Nat) (n x : Nat) : List Nat := (List.range n).map fun i => if i = x / 64 then gw l i ||| 2 ^ (x % 64) else gw l i
theorem setB_len (l : List Nat) (n x : Nat) : (setB l n x).length = n := by simp [setB]
theorem gw_setB {l : List Nat} {n x i : Nat} (h : i < n) : gw (setB l n x) i = if i = x / 64 then gw l i ||| 2 ^ (x % 64) else gw l i := by
 rw [gw_lt (by rw [setB_len]; exact h)]
 simp [setB]
theorem hasB_set {l : List Nat} {n x : Nat} (h1 : l.length ≤ n) (h2 : x / 64 < n) (y : Nat) : hasB (setB l n x) y = (hasB l y || y == x) := by
 unfold hasB
 rcases Nat.lt_or_ge (y / 64) n with h3 | h3
 · rw [gw_setB h3]
   by_cases e : y / 64 = x / 64
   · rw [if_pos e, Nat.testBit_or, Nat.testBit_two_pow]
     congr 1
     by_cases e2 : y = x
     · subst e2; simp
     · have : ¬ (x % 64 = y % 64) := fun h => e2 (by omega)
       simp [this, e2]
   · rw [if_neg e]
     have : y ≠ x := by rintro rfl; exact e rfl
     simp [this]
 · rw [gw_ge (by rw [setB_len]; exact h3), gw_ge (by omega)]
   have : y ≠ x := by rintro rfl; omega
   simp [this]
theorem or_lt64 {a j : Nat} (ha : a < 18446744073709551616) (hj : j < 64) : a ||| 2 ^ j < 18446744073709551616 := by
 have h1 : a < 2 ^ 64 := by omega
 have h2 : 2 ^ j < 2 ^ 64 := Nat.pow_lt_pow_right (by omega) hj
 have := Nat.or_lt_two_pow h1 h2
 omega
def elemsB (l : List Nat) (m : Nat) : List Nat := (List.range m).filter (hasB l)
theorem elemsB_succ (l : List Nat) (m : Nat) : elemsB l (m + 1) = if hasB l m = true then elemsB l m ++ [m] else elemsB l m := by
 unfold elemsB
 rw [List.range_succ, List.filter_append]
 by_cases h : hasB l m = true
 · simp [h]
 · simp [h]
theorem elemsB_len (l : List Nat) (m : Nat) : (elemsB l m).length ≤ m := by
 unfold elemsB
 refine Nat.le_trans (List.length_filter_le _ _) ?_
 simp
theorem filter_range {f : Nat → Bool} {m : Nat} (h : ∀ x, f x = true → x < m) : ∀ d, (List.range (m + d)).filter f = (List.range m).filter f
 | 0 => rfl
 | d + 1 => by
   rw [← Nat.add_assoc, List.range_succ, List.filter_append, filter_range h d]
   have : f (m + d) = false := by
     cases hh : f (m + d) with
     | false => rfl
     | true => have := h _ hh; omega
   simp [this]
theorem elemsB_eq {l : List Nat} {F : Nat} {f : Nat → Bool} (h : ∀ x, hasB l x = f x) (hF : ∀ x, f x = true → x < F) : elemsB l (l.length * 64) = (List.range F).filter f := by
 have e : hasB l = f := funext h
 unfold elemsB
 rw [e]
 have h1 := filter_range hF (l.length * 64)
 have h2 := filter_range (f := f) (m := l.length * 64) (fun x hx => hasB_lt (l := l) (by rw [h]; exact hx)) F
 rw [Nat.add_comm] at h1
 rw [← h1, h2]
theorem elemsB_zero {l : List Nat} {i : Nat} (h : gw l i = 0) : ∀ j, j ≤ 64 → elemsB l (i * 64 + j) = elemsB l (i * 64)
 | 0, _ => rfl
 | j + 1, hj => by
   rw [← Nat.add_assoc, elemsB_succ, elemsB_zero h j (by omega)]
   have : hasB l (i * 64 + j) = false := by
     unfold hasB
     rw [show (i * 64 + j) / 64 = i by omega, h]
     simp
   simp [this]
theorem hasB_at {l : List Nat} {i j : Nat} (hj : j < 64) : hasB l (i * 64 + j) = (gw l i).testBit j := by
 unfold hasB
 rw [show (i * 64 + j) / 64 = i by omega, show (i * 64 + j) % 64 = j by omega]
def unionB (a b : List Nat) (n : Nat) : List Nat := (List.range n).map fun i => gw a i ||| gw b i
theorem bit_test (v j : Nat) (hv : v < 18446744073709551616) : (bits BinOp.and IntKind.u64 ((v : Int) / 2 ^ j) 1 == 1) = v.testBit j := by
 have h1 : ((v : Int) / 2 ^ j) = ((v / 2 ^ j : Nat) : Int) := by simp
 have h2 := bits_and_u64_nat (v / 2 ^ j) 1 (Nat.lt_of_le_of_lt (Nat.div_le_self _ _) hv) (by omega)
 rw [h1]
 have h3 : (bits BinOp.and IntKind.u64 ((v / 2 ^ j : Nat) : Int) 1) = (((v / 2 ^ j) &&& 1 : Nat) : Int) := h2
 rw [h3, Nat.testBit_eq_decide_div_mod_eq, Nat.and_one_is_mod, Bool.eq_iff_iff]
 simp
 omega
theorem bit_or (v j : Nat) (hv : v < 18446744073709551616) (hj : j < 64) : bits BinOp.or IntKind.u64 (v : Int) (IntKind.u64.wrap (2 ^ j)) = ((v ||| 2 ^ j : Nat) : Int) := by
 have h1 : 2 ^ j < 2 ^ 64 := Nat.pow_lt_pow_right (by omega) hj
 have h2 : IntKind.u64.wrap (2 ^ j) = ((2 ^ j : Nat) : Int) := by
   have e : ((2 : Int) ^ j) = ((2 ^ j : Nat) : Int) := by simp
   rw [e]
   generalize 2 ^ j = m at h1
   exact IntWalk.u64_in _ (by omega)
 rw [h2]
 exact bits_or_u64_nat v (2 ^ j) hv (by omega)
theorem wpList_make3 {P : Program} (w : World) {ops : Array Oper} {rest : List Oper} {o : Oper} {a : Act} {Q : Exit → Act → World → Prop} (hg : o.guard = none) (l c : Operand) (t : TypeId) (hop : o.op = Op.makeSlice t l c)
   (e : TypeId) (i : TypeInfo) (z : Value) (size bytes : Nat) (ht : P.underlying t = some (.slice e)) (hi : P.info? e = some i) (hz : i.zero = some z) (hsize : i.size = size) (hby : i.bytes = bytes) (n : Nat)
   (hl : a.eval l = .int .i64 (n : Int)) (hc : a.eval c = .int .i64 (n : Int)) (hbytes : bytes * n ≤ 281474976710656) (h63 : n ≤ 9223372036854775807) (M : Array Value) (hM : madeCells z.cells (n * size) = M)
   (hK : wpList P ops Q rest (a.put o.dst (.slice (some ⟨w.heap.size, 0, none⟩) n n)) (w.alloc (.cells M e))) : wpList P ops Q (o :: rest) a w := by
 subst hM hsize hby
 refine wpList_plain hg fun K hK' => ?_
 have hrun := run_make (P := P) w t e i z ht hi hz .i64 .i64 (n : Int) (n : Int) (by omega) (Int.le_refl _) (by rw [← Int.natCast_mul]; omega) (by omega)
 simp only [Int.toNat_natCast] at hrun
 unfold Oper.wp
 simp [execOp, hop, hl, hc, hrun, Result.andThen]
 exact hK' _ _ hK
end Go.Df
namespace Go.Df
open Go.RowKit Go.Maps Go.ChangeMaps
def MapV (P : Program) (k e : TypeId) (z : Lit) (w : World) (b n : Nat) (f : Value → Lit) : Prop :=
 ∃ D : DataW Unit, w.ownsMap P k (plainElem P e) b n D ∧ ∀ key kl, keyOf P k key = some kl → D.atKey kl (.lit z) = .lit (f key)
theorem MapV.made (P : Program) (k e : TypeId) (z : Lit) (w : World) (b : Nat) (hb : b = w.heap.size) : MapV P k e z (w.alloc (.map #[] 0)) b 0 (fun _ => z) := by
 subst hb
 exact ⟨_, World.ownsMap_made w P k _, fun _ _ _ => rfl⟩
theorem MapV.mono {P : Program} {k e : TypeId} {z : Lit} {w : World} {b n n' : Nat} {f : Value → Lit} (h : MapV P k e z w b n f) (hn : n ≤ n') : MapV P k e z w b n' f :=
 let ⟨D, h1, h2⟩ := h; ⟨D, h1.mono hn, h2⟩
theorem MapV.lt {P : Program} {k e : TypeId} {z : Lit} {w : World} {b n : Nat} {f : Value → Lit} (h : MapV P k e z w b n f) : b < w.heap.size :=
 let ⟨_, h1, _⟩ := h; h1.lt
theorem MapV.ext {P : Program} {k e : TypeId} {z : Lit} {w : World} {b n : Nat} {f g : Value → Lit} (h : MapV P k e z w b n f) (hg : ∀ key kl, keyOf P k key = some kl → f key = g key) : MapV P k e z w b n g :=
 let ⟨D, h1, h2⟩ := h; ⟨D, h1, fun key kl hk => by rw [h2 key kl hk, hg key kl hk]⟩
theorem MapV.kept {P : Program} {k e : TypeId} {z : Lit} {w w' : World} {b n : Nat} {f : Value → Lit} {X : List Nat} (h : MapV P k e z w b n f) (hk : Kept X w w') (hX : b ∉ X) : MapV P k e z w' b n f := by
 have hlt := h.lt
 obtain ⟨D, ⟨es, clock, h1, h2⟩, h3⟩ := h
 exact ⟨D, ⟨es, clock, (hk.block b hlt hX).trans h1, h2⟩, h3⟩
theorem MapV.look_int {P : Program} {k e t : TypeId} {w : World} {b n : Nat} {f : Value → Lit} (h : MapV P k e (.int .i64 0) w b n f) (K : Keyed P k) (ht : P.underlying t = some (.map k e)) (he : P.underlying e = some (.int .i64)) (hz : (zeroValue e).run P w = .ok (.int .i64 0) w)
   {key : Value} {kl : Lit} (hkey : keyOf P k key = some kl) {c : Int} (hc : f key = .int .i64 c) : (Instr.lookup t (.map (some b)) key false).run P w = .ok (.int .i64 c) w := by
 obtain ⟨D, h1, h2⟩ := h
 obtain ⟨c', hrun, hat, -⟩ := h1.lookup_int K ht he hz hkey
 have h3 := h2 key kl hkey
 rw [hat, hc] at h3
 cases h3
 exact hrun
theorem plainElem_bool_inv {P : Program} {e : TypeId} (he : P.underlying e = some .bool) {v : Value} {z : DataW Unit × List MemPlace} (h : plainElem P e v = some z) : ∃ a, v = .bool a ∧ z = (.lit (.bool a), []) := by
 unfold plainElem at h
 rw [he] at h
 split at h
 · cases h; exact ⟨_, rfl, rfl⟩
 all_goals simp_all
theorem MapV.look_bool {P : Program} {k e t : TypeId} {w : World} {b n : Nat} {f : Value → Lit} (h : MapV P k e (.bool false) w b n f) (K : Keyed P k) (ht : P.underlying t = some (.map k e)) (he : P.underlying e = some .bool) (hz : (zeroValue e).run P w = .ok (.bool false) w)
   {key : Value} {kl : Lit} (hkey : keyOf P k key = some kl) {c : Bool} (hc : f key = .bool c) : (Instr.lookup t (.map (some b)) key false).run P w = .ok (.bool c) w := by
 obtain ⟨D, h1, h2⟩ := h
 obtain ⟨v, ps, hrun, hv⟩ := h1.lookup K ht hz (plainElem_bool he false) hkey
 obtain ⟨a, rfl, ha⟩ := plainElem_bool_inv he hv
 have h3 := h2 key kl hkey
 simp only [Prod.mk.injEq] at ha
 rw [ha.1, hc] at h3
 cases h3
 exact hrun
theorem MapV.store {P : Program} {k e t : TypeId} {z : Lit} {w : World} {b n : Nat} {f : Value → Lit} (h : MapV P k e z w b n f) (K : Keyed P k) (ht : P.underlying t = some (.map k e)) (hn : n < maxLen)
   {key val : Value} {kl d : Lit} (hkey : keyOf P k key = some kl) (hval : plainElem (H := Unit) P e val = some (.lit d, [])) (g : Value → Lit) (g1 : g key = d) (g2 : ∀ x, x ≠ key → g x = f x) :
   ∃ w', (Instr.mapUpdate t (.map (some b)) key val).run P w = .ok () w' ∧ MapV P k e z w' b (n + 1) g ∧ Kept [b] w w' := by
 obtain ⟨D, h1, h2⟩ := h
 have hm := h1.isMap
 obtain ⟨w', hrun, h3, hg⟩ := h1.update K ht hn hkey hval
 refine ⟨w', hrun, ⟨_, h3, fun key' kl' hk' => ?_⟩, ⟨hg.1, hg.2, hg.3, hg.4, fun j hj hx => hg.5 j hj (by simp at hx; intro hh; exact hx (by simpa using hh))⟩⟩
 by_cases hkk : key' = key
 · subst hkk
   obtain rfl : kl' = kl := by rw [hkey] at hk'; exact (Option.some.inj hk').symm
   rw [atKey_put_same hm (K.key hkey), g1]
 · have hne : kl' ≠ kl := fun hh => hkk (K.inj (by rw [← hh]; exact hk') hkey)
   rw [atKey_put_other hne, g2 _ hkk]
   exact h2 key' kl' hk'
theorem wpList_store_map {P : Program} (w : World) {ops : Array Oper} {rest : List Oper} {o : Oper} {a : Act} {Q : Exit → Act → World → Prop}
   (hg : o.guard = none) (m x v : Operand) (t : TypeId) (hop : o.op = Op.mapUpdate t m x v)
   (k e : TypeId) (K : Keyed P k) (ht : P.underlying t = some (.map k e)) (z : Lit) (b n : Nat) (f : Value → Lit)
   (hm : a.eval m = .map (some b)) (hown : MapV P k e z w b n f) (hn : n < maxLen) (key val : Value) (kl d : Lit) (hx : a.eval x = key) (hv : a.eval v = val) (hkey : keyOf P k key = some kl)
   (hval : plainElem (H := Unit) P e val = some (.lit d, [])) (g : Value → Lit) (g1 : g key = d) (g2 : ∀ x, x ≠ key → g x = f x)
   (hK : ∀ w', MapV P k e z w' b (n + 1) g → Kept [b] w w' → wpList P ops Q rest (a.put o.dst undef) w') :
   wpList P ops Q (o :: rest) a w := by
 refine wpList_plain hg fun K' hK' => ?_
 obtain ⟨w', hrun, r1, r2⟩ := hown.store K ht hn hkey hval g g1 g2
 unfold Oper.wp
 simp [execOp, hop, hm, hx, hv, hrun, Result.andThen]
 exact hK' _ _ (hK w' r1 r2)
theorem wpList_look_int {P : Program} (w : World) {ops : Array Oper} {rest : List Oper} {o : Oper} {a : Act} {Q : Exit → Act → World → Prop}
   (hg : o.guard = none) (m x : Operand) (t : TypeId) (hop : o.op = Op.lookup t m x false)
   (k e : TypeId) (K : Keyed P k) (ht : P.underlying t = some (.map k e)) (he : P.underlying e = some (.int .i64)) (hz : (zeroValue e).run P w = .ok (.int .i64 0) w) (b n : Nat) (f : Value → Lit)
   (hm : a.eval m = .map (some b)) (hown : MapV P k e (.int .i64 0) w b n f) (key : Value) (kl : Lit) (hx : a.eval x = key) (hkey : keyOf P k key = some kl) (c : Int) (hc : f key = .int .i64 c)
   (hK : wpList P ops Q rest (a.put o.dst (.int .i64 c)) w) : wpList P ops Q (o :: rest) a w := by
 refine wpList_plain hg fun K' hK' => ?_
 have hrun := hown.look_int K ht he hz hkey hc
 unfold Oper.wp
 simp [execOp, hop, hm, hx, hrun, Result.andThen]
 exact hK' _ _ hK
def fieldsOf (P : Program) (k : TypeId) : List (String × TypeId × Nat) := match P.underlying k with | some (.struct fs) => fs.toList.map (fun f => (f.name, f.type, f.offset)) | _ => []
theorem fieldsOf_struct {P : Program} {k : TypeId} {l : List (String × TypeId × Nat)} (h : fieldsOf P k = l) (hl : l ≠ []) : ∃ fs, P.underlying k = some (.struct fs) ∧ fs.toList.map (fun f => (f.name, f.type, f.offset)) = l := by
 unfold fieldsOf at h
 cases hu : P.underlying k with
 | none => rw [hu] at h; exact absurd h.symm hl
 | some d =>
   rw [hu] at h
   cases d with
   | struct fs => exact ⟨fs, rfl, h⟩
   | _ => exact absurd h.symm hl
theorem keyed_struct {P : Program} {k : TypeId} {l : List (String × TypeId × Nat)} (hl : laidOutB P = true) (hrow : k < P.types.size) (hk : P.keyTypeAt 2 k = true) (h : fieldsOf P k = l) (hne : l ≠ []) : Keyed P k := by
 obtain ⟨fs, hu, -⟩ := fieldsOf_struct h hne
 exact Keyed.of_law (deep_law_laid hl (m := 2) (by omega) hrow hk (by rw [hu]))
theorem keyOf_two {P : Program} {k e : TypeId} {x y : String} (h : fieldsOf P k = [(x, e, 0), (y, e, 1)]) (hx : x ≠ "_") (hy : y ≠ "_") (hd : P.keyType k = true) (hrow : k < P.types.size) (hc : P.cellsOf k = 2) (he : P.underlying e = some (.int .i64)) (hce : P.cellsOf e = 1)
   (a b : Int) (ha : (Lit.int .i64 a).wf = true) (hb : (Lit.int .i64 b).wf = true) : ∃ kl, keyOf P k (.agg #[.int .i64 a, .int .i64 b]) = some kl := by
 obtain ⟨fs, hu, hf⟩ := fieldsOf_struct h (by simp)
 obtain ⟨m, hm⟩ : ∃ m, P.types.size = m + 1 := Nat.exists_eq_succ_of_ne_zero (Nat.ne_of_gt (Nat.lt_of_le_of_lt (Nat.zero_le (k : Nat)) hrow))
 have hfo : (Value.agg #[.int .i64 a, .int .i64 b]).formed P k = true := by
   unfold Value.formed
   rw [hu, hc]
   rfl
 have hl : fs.toList.length = 2 := by simpa using congrArg List.length hf
 obtain ⟨fl⟩ := fs
 match fl, hl, hf with
 | [f0, f1], _, hf =>
   simp only [List.map_cons, List.map_nil, List.cons.injEq, Prod.mk.injEq, and_true] at hf
   obtain ⟨⟨n0, t0, o0⟩, n1, t1, o1⟩ := hf
   unfold keyOf
   rw [hu]
   simp only [hd, hfo, Bool.and_self, if_true]
   rw [hm]
   simp [Program.keyLits, hu, hc, n0, n1, t0, t1, o0, o1, hce, he, ha, hb, Value.cells, hx, hy]
def tokElem (v : Value) : Option (DataW Value × List MemPlace) := some (.held v, [])
def Reads (P : Program) (k : TypeId) (z : Value) (D : DataW Value) (f : Value → Value) : Prop :=
 ∀ key kl, keyOf P k key = some kl → D.atKey kl (.held z) = .held (f key) ∧ ((∀ zd, D.atKey kl zd = .held (f key)) → f key ≠ z)
def MapT (P : Program) (k : TypeId) (z : Value) (w : World) (b n : Nat) (f : Value → Value) : Prop :=
 ∃ D : DataW Value, w.ownsMap P k tokElem b n D ∧ Reads P k z D f
theorem Reads.two {P : Program} {k : TypeId} {z : Value} {D : DataW Value} {f g : Value → Value} (h : Reads P k z D f) (hg : ∀ key, f key = g key) : Reads P k z D g := by
 have e : f = g := funext hg
 subst e
 exact h
theorem MapT.made (P : Program) (k : TypeId) (z : Value) (w : World) (b : Nat) (hb : b = w.heap.size) : MapT P k z (w.alloc (.map #[] 0)) b 0 (fun _ => z) := by
 subst hb
 refine ⟨_, World.ownsMap_made w P k _, fun _ _ _ => ⟨rfl, fun h => ?_⟩⟩
 have h9 := h (.lit (.bool true))
 cases h9
theorem MapT.mono {P : Program} {k : TypeId} {z : Value} {w : World} {b n n' : Nat} {f : Value → Value} (h : MapT P k z w b n f) (hn : n ≤ n') : MapT P k z w b n' f :=
 let ⟨D, h1, h2⟩ := h; ⟨D, h1.mono hn, h2⟩
theorem MapT.lt {P : Program} {k : TypeId} {z : Value} {w : World} {b n : Nat} {f : Value → Value} (h : MapT P k z w b n f) : b < w.heap.size :=
 let ⟨_, h1, _⟩ := h; h1.lt
theorem MapT.obj {P : Program} {k : TypeId} {z : Value} {w : World} {b n : Nat} {f : Value → Value} (h : MapT P k z w b n f) : ∃ es clock, w.heap[b]? = some (.map es clock) :=
 let ⟨_, ⟨es, clock, h1, _⟩, _⟩ := h; ⟨es, clock, h1⟩
theorem MapT.ext {P : Program} {k : TypeId} {z : Value} {w : World} {b n : Nat} {f g : Value → Value} (h : MapT P k z w b n f) (hg : ∀ key, f key = g key) : MapT P k z w b n g :=
 let ⟨D, h1, h2⟩ := h; ⟨D, h1, h2.two hg⟩
theorem MapT.same {P : Program} {k : TypeId} {z : Value} {w w' : World} {b n : Nat} {f : Value → Value} (h : MapT P k z w b n f) (hk : w'.heap[b]? = w.heap[b]?) : MapT P k z w' b n f := by
 obtain ⟨D, ⟨es, clock, h1, h2⟩, h3⟩ := h
 exact ⟨D, ⟨es, clock, hk.trans h1, h2⟩, h3⟩
theorem MapT.kept {P : Program} {k : TypeId} {z : Value} {w w' : World} {b n : Nat} {f : Value → Value} {X : List Nat} (h : MapT P k z w b n f) (hk : Kept X w w') (hX : b ∉ X) : MapT P k z w' b n f :=
 h.same (hk.block b h.lt hX)
theorem MapT.look {P : Program} {k e t : TypeId} {z : Value} {w : World} {b n : Nat} {f : Value → Value} (h : MapT P k z w b n f) (K : Keyed P k) (ht : P.underlying t = some (.map k e)) (hz : (zeroValue e).run P w = .ok z w)
   {key : Value} {kl : Lit} (hkey : keyOf P k key = some kl) : (Instr.lookup t (.map (some b)) key false).run P w = .ok (f key) w := by
 obtain ⟨D, h1, h2⟩ := h
 obtain ⟨v, ps, hrun, hv⟩ := h1.lookup K ht hz (zd := .held z) (zp := []) rfl hkey
 rw [(h2 key kl hkey).1] at hv
 unfold tokElem at hv
 injection hv with hv
 injection hv with hv _
 injection hv with hv
 rw [hrun, hv]
theorem MapT.store {P : Program} {k e t : TypeId} {z : Value} {w : World} {b n : Nat} {f : Value → Value} (h : MapT P k z w b n f) (K : Keyed P k) (ht : P.underlying t = some (.map k e)) (hn : n < maxLen)
   {key val : Value} {kl : Lit} (hkey : keyOf P k key = some kl) (g : Value → Value) (g1 : g key = val) (g2 : ∀ x, x ≠ key → g x = f x) (hz : val ≠ z) :
   ∃ w', (Instr.mapUpdate t (.map (some b)) key val).run P w = .ok () w' ∧ MapT P k z w' b (n + 1) g ∧ Kept [b] w w' := by
 obtain ⟨D, h1, h2⟩ := h
 have hm := h1.isMap
 obtain ⟨w', hrun, h3, hg⟩ := h1.update K ht hn hkey (d := .held val) (ps := []) rfl
 refine ⟨w', hrun, ⟨_, h3, fun key' kl' hk' => ?_⟩, ⟨hg.1, hg.2, hg.3, hg.4, fun j hj hx => hg.5 j hj (by simp at hx; intro hh; exact hx (by simpa using hh))⟩⟩
 by_cases hkk : key' = key
 · subst hkk
   obtain rfl : kl' = kl := by rw [hkey] at hk'; exact (Option.some.inj hk').symm
   exact ⟨by rw [atKey_put_same hm (K.key hkey), g1], fun _ => by rw [g1]; exact hz⟩
 · have hne : kl' ≠ kl := fun hh => hkk (K.inj (by rw [← hh]; exact hk') hkey)
   refine ⟨by rw [atKey_put_other hne, g2 _ hkk]; exact (h2 key' kl' hk').1, fun h => ?_⟩
   rw [g2 _ hkk] at h ⊢
   exact (h2 key' kl' hk').2 (fun zd => by rw [← h zd, atKey_put_other hne])
theorem wpList_store_mapT {P : Program} (w : World) {ops : Array Oper} {rest : List Oper} {o : Oper} {a : Act} {Q : Exit → Act → World → Prop}
   (hg : o.guard = none) (m x v : Operand) (t : TypeId) (hop : o.op = Op.mapUpdate t m x v)
   (k e : TypeId) (K : Keyed P k) (ht : P.underlying t = some (.map k e)) (z : Value) (b n : Nat) (f : Value → Value)
   (hm : a.eval m = .map (some b)) (hown : MapT P k z w b n f) (hn : n < maxLen) (key val : Value) (kl : Lit) (hx : a.eval x = key) (hv : a.eval v = val) (hkey : keyOf P k key = some kl)
   (g : Value → Value) (g1 : g key = val) (g2 : ∀ x, x ≠ key → g x = f x) (hz : val ≠ z)
   (hK : ∀ w', MapT P k z w' b (n + 1) g → Kept [b] w w' → wpList P ops Q rest (a.put o.dst undef) w') :
   wpList P ops Q (o :: rest) a w := by
 refine wpList_plain hg fun K' hK' => ?_
 obtain ⟨w', hrun, r1, r2⟩ := hown.store K ht hn hkey g g1 g2 hz
 unfold Oper.wp
 simp [execOp, hop, hm, hx, hv, hrun, Result.andThen]
 exact hK' _ _ (hK w' r1 r2)
theorem keptWide {X Y : List Nat} {w w' : World} (h : Kept X w w') (hx : ∀ x ∈ X, x ∈ Y) : Kept Y w w' := ⟨h.os, h.tape, h.output, h.size, fun k hk hn => h.block k hk (fun hm => hn (hx k hm))⟩
def Tag (w : World) (b : Nat) (t : TypeId) : Prop := ∃ cur, w.heap[b]? = some (.cells cur t (0, 0))
theorem Tag.lt {w : World} {b : Nat} {t : TypeId} (h : Tag w b t) : b < w.heap.size := by
 obtain ⟨cur, h⟩ := h
 exact (Array.getElem?_eq_some_iff.1 h).1
theorem Tag.same {w w' : World} {b : Nat} {t : TypeId} (h : Tag w b t) (hk : w'.heap[b]? = w.heap[b]?) : Tag w' b t := let ⟨cur, h⟩ := h; ⟨cur, hk.trans h⟩
theorem Tag.new (w : World) (cur : Array Value) (t : TypeId) (b : Nat) (hb : b = w.heap.size) : Tag (w.alloc (.cells cur t)) b t := by
 subst hb
 exact ⟨cur, heap_alloc_new w _⟩
theorem Tag.frozen {w : World} {b : Nat} {t : TypeId} (h : Tag w b t) (i : Nat) : w.frozen? ⟨b, i, none⟩ = false := by
 obtain ⟨cur, h⟩ := h
 simp [World.frozen?, h]
theorem Tag.set {w : World} {b : Nat} {t : TypeId} (h : Tag w b t) (x i : Nat) (v : Value) : Tag (w.setCell ⟨x, i, none⟩ v) b t := by
 obtain ⟨cur, h⟩ := h
 by_cases e : b = x
 · subst e
   unfold Tag World.setCell
   simp only [Array.getElem?_modify]
   simp [h]
 · exact ⟨cur, (RowKit.Below.heap_setCell _ _ _ _ e).trans h⟩
theorem Tag.ne_map {w : World} {b x : Nat} {t : TypeId} (h : Tag w b t) (hx : ∃ es clock, w.heap[x]? = some (.map es clock)) : b ≠ x := by
 rintro rfl
 obtain ⟨cur, h⟩ := h
 obtain ⟨es, clock, hx⟩ := hx
 rw [h] at hx
 cases hx
theorem Tag.ne {w : World} {b x : Nat} {t u : TypeId} (h : Tag w b t) (hx : Tag w x u) (hn : t ≠ u) : b ≠ x := by
 rintro rfl
 obtain ⟨cur, h⟩ := h
 obtain ⟨cur', hx⟩ := hx
 rw [h] at hx
 injection hx with hx
 injection hx with _ hx _
 exact hn hx
theorem own_tag {w : World} {base : Nat} {e : TypeId} {size : Nat} {v : Value} {n : Nat} {xs : List Value} (h : w.ownsRow base e size v n xs) {g : Nat} (hg : v.ownBlock = some g) : Tag w g e := by
 rcases h.2 with ⟨rfl, _⟩ | ⟨g', cap, cur, rfl, _, h1, _⟩
 · cases hg
 · injection hg with hg
   subst hg
   exact ⟨cur, h1⟩
structure Kb (TS : List TypeId) (base : Nat) (w w' : World) : Prop where
 os : w'.os = w.os
 tape : w'.tape = w.tape
 output : w'.output = w.output
 size : w.heap.size ≤ w'.heap.size
 low : ∀ k, k < w.heap.size → k < base → w'.heap[k]? = w.heap[k]?
 tag : ∀ k t, Tag w k t → t ∉ TS → w'.heap[k]? = w.heap[k]?
theorem Kb.refl (TS : List TypeId) (base : Nat) (w : World) : Kb TS base w w := ⟨rfl, rfl, rfl, Nat.le_refl _, fun _ _ _ => rfl, fun _ _ _ _ => rfl⟩
theorem Kb.trans {TS : List TypeId} {base : Nat} {w w' w'' : World} (h : Kb TS base w w') (k : Kb TS base w' w'') : Kb TS base w w'' :=
 ⟨k.os.trans h.os, k.tape.trans h.tape, k.output.trans h.output, Nat.le_trans h.size k.size, fun x hx hb => (k.low x (Nat.lt_of_lt_of_le hx h.size) hb).trans (h.low x hx hb),
   fun x t ht hn => (k.tag x t (ht.same (h.tag x t ht hn)) hn).trans (h.tag x t ht hn)⟩
theorem Kb.of_kept {TS : List TypeId} {base : Nat} {X : List Nat} {w w' : World} (h : Kept X w w') (hX : ∀ x ∈ X, base ≤ x ∧ ∀ t, Tag w x t → t ∈ TS) : Kb TS base w w' :=
 ⟨h.os, h.tape, h.output, h.size, fun k hk hb => h.block k hk (fun hm => by have := (hX k hm).1; omega), fun k t ht hn => h.block k ht.lt (fun hm => hn ((hX k hm).2 t ht))⟩
theorem Kb.of_same {TS : List TypeId} {base : Nat} {w w' : World} (h : Kept [] w w') : Kb TS base w w' := Kb.of_kept h (by simp)
theorem Kb.below {TS : List TypeId} {base : Nat} {w w' : World} (h : Kb TS base w w') (hb : base ≤ w.heap.size) : Below base w w' :=
 ⟨h.os, h.tape, h.output, h.size, fun k hk => h.low k (by omega) hk⟩
theorem Kb.call {TS : List TypeId} {base : Nat} {w w' w'' : World} (h : Kb TS base w w') (hb : Below w'.heap.size w' w'') : Kb TS base w w'' := h.trans (Kb.of_same ((Kept.refl _ _).call hb))
structure Tb (P : Program) (k tM : TypeId) (z : Value) (w : World) (r N : Nat) (m : Nat → Option Nat) (c : Nat → Nat) (v : Nat → Value → Value) : Prop where
 row : ∃ cur, w.heap[r]? = some (.cells cur tM (0, 0)) ∧ cur.size = N ∧ ∀ n, n < N → cur[n]? = some (.map (m n))
 is : ∀ n b, n < N → m n = some b → MapT P k z w b (c n) (v n)
 no : ∀ n, n < N → m n = none → ∀ a, v n a = z
 inj : ∀ n n' b, n < N → n' < N → m n = some b → m n' = some b → n = n'
variable {P : Program} {k tM : TypeId} {z : Value} {w : World} {r N : Nat} {m : Nat → Option Nat} {c : Nat → Nat} {v : Nat → Value → Value}
theorem Tb.rtag (h : Tb P k tM z w r N m c v) : Tag w r tM := let ⟨cur, h1, _⟩ := h.row; ⟨cur, h1⟩
theorem Tb.cell (h : Tb P k tM z w r N m c v) {n : Nat} (hn : n < N) : w.cell? ⟨r, n, none⟩ = some (.map (m n)) := by
 obtain ⟨cur, h1, _, h3⟩ := h.row
 simp [World.cell?, h1, h3 n hn]
theorem Tb.kept {X : List Nat} {w' : World} (h : Tb P k tM z w r N m c v) (hk : Kept X w w') (hr : r ∉ X) (hm : ∀ n b, n < N → m n = some b → b ∉ X) : Tb P k tM z w' r N m c v := by
 obtain ⟨cur, h1, h2, h3⟩ := h.row
 exact ⟨⟨cur, (hk.block r h.rtag.lt hr).trans h1, h2, h3⟩, fun n b hn hb => (h.is n b hn hb).kept hk (hm n b hn hb), h.no, h.inj⟩
theorem Tb.ext (h : Tb P k tM z w r N m c v) {v' : Nat → Value → Value} (hv : ∀ n a, v n a = v' n a) : Tb P k tM z w r N m c v' := by
 have : v = v' := funext fun n => funext fun a => hv n a
 subst this
 exact h
open Classical in
noncomputable def updV (v : Nat → Value → Value) (n : Nat) (key x : Value) : Nat → Value → Value := fun n' key' => if n' = n ∧ key' = key then x else v n' key'
theorem Tb.stored {w' : World} {n b : Nat} {key x : Value} (h : Tb P k tM z w r N m c v) (hn : n < N) (hb : m n = some b) (hk : Kept [b] w w') (hm : MapT P k z w' b (c n + 1) (updV v n key x n)) :
   Tb P k tM z w' r N m (fun i => if i = n then c n + 1 else c i) (updV v n key x) := by
 obtain ⟨cur, h1, h2, h3⟩ := h.row
 have hne : r ≠ b := h.rtag.ne_map (h.is n b hn hb).obj
 refine ⟨⟨cur, (hk.block r h.rtag.lt (by simpa using hne)).trans h1, h2, h3⟩, fun i b' hi hb' => ?_, fun i hi hi' a => ?_, h.inj⟩
 · by_cases e : i = n
   · subst e
     obtain rfl : b' = b := by rw [hb] at hb'; exact (Option.some.inj hb').symm
     simpa using hm
   · have h4 := (h.is i b' hi hb').kept hk (by intro hm'; simp at hm'; subst hm'; exact e (h.inj i n b' hi hn hb' hb))
     simp only [if_neg e]
     refine h4.ext fun a => ?_
     simp [updV, e]
 · have e : i ≠ n := by rintro rfl; rw [hb] at hi'; cases hi'
   simp only [updV]
   rw [if_neg (fun hh => e hh.1)]
   exact h.no i hi hi' a
theorem Tb.fresh {n b : Nat} (h : Tb P k tM z w r N m c v) (hn : n < N) (hm : m n = none) (hb : b = w.heap.size) :
   Tb P k tM z ((w.alloc (.map #[] 0)).setCell ⟨r, n, none⟩ (.map (some b))) r N (fun i => if i = n then some b else m i) c v := by
 subst hb
 obtain ⟨cur, h1, h2, h3⟩ := h.row
 have hr := h.rtag.lt
 have h1' : (w.alloc (.map #[] 0)).heap[r]? = some (.cells cur tM (0, 0)) := (((Kept.refl [] w).alloc _).block r hr (by simp)).trans h1
 have hrow : ((w.alloc (.map #[] 0)).setCell ⟨r, n, none⟩ (.map (some w.heap.size))).heap[r]? = some (.cells (cur.setIfInBounds n (.map (some w.heap.size))) tM (0, 0)) := by
   unfold World.setCell
   simp only [Array.getElem?_modify]
   simp [h1']
 have hkx : Kept [r] (w.alloc (.map #[] 0)) ((w.alloc (.map #[] 0)).setCell ⟨r, n, none⟩ (.map (some w.heap.size))) := (Kept.refl _ _).set _ _ _ (.inl (by simp))
 refine ⟨⟨_, hrow, by simpa using h2, fun i hi => ?_⟩, fun i b' hi hb' => ?_, fun i hi hi' => ?_, fun i j b' hi hj hbi hbj => ?_⟩
 · by_cases e : i = n
   · subst e
     simp [h2, hi]
   · rw [Array.getElem?_setIfInBounds_ne (Ne.symm e), h3 i hi, if_neg e]
 · by_cases e : i = n
   · subst e
     rw [if_pos rfl] at hb'
     injection hb' with hb'
     subst hb'
     have h5 : MapT P k z (w.alloc (.map #[] 0)) w.heap.size (c i) (v i) := ((MapT.made P k z w _ rfl).mono (Nat.zero_le _)).ext fun a => (h.no i hi hm a).symm
     exact h5.kept hkx (by simp; omega)
   · rw [if_neg e] at hb'
     have h4 := (h.is i b' hi hb').kept ((Kept.refl [] w).alloc (.map #[] 0)) (by simp)
     have h5 : b' ≠ r := (h.rtag.ne_map (h.is i b' hi hb').obj).symm
     exact h4.kept hkx (by simpa using h5)
 · by_cases e : i = n
   · subst e; rw [if_pos rfl] at hi'; cases hi'
   · rw [if_neg e] at hi'
     exact h.no i hi hi'
 · by_cases e : i = n
   · by_cases e' : j = n
     · omega
     · subst e
       rw [if_pos rfl] at hbi
       rw [if_neg e'] at hbj
       injection hbi with hbi
       have := (h.is j b' hj hbj).lt
       omega
   · rw [if_neg e] at hbi
     by_cases e' : j = n
     · subst e'
       rw [if_pos rfl] at hbj
       injection hbj with hbj
       have := (h.is i b' hi hbi).lt
       omega
     · rw [if_neg e'] at hbj
       exact h.inj i j b' hi hj hbi hbj
end Go.Df
