/-
  Rows of rows that a call builds one by one; the document's graph of conflicts. No walk.
  No condition.
-/
import Derived.Test.YtegejcmihojhbaaHsGraph
import Derived.Test.YtegejcmihojhbaaHsLawPure
import Derived.Test.YtegejcmihojhbaaHgPts
namespace Go.Proofs.Ytegejcmihojhbaa
open Go Go.RowKit

/-- One more at the end of one row. -/
theorem rows_put {w W w2 : World} {gb n i : Nat} {vs : List Value} {G : List (List Int)} {u u' : Value} {xs : List Int} {x : Int} {ob : Obj} (hgb : w.heap.size ≤ gb) (hfr : Fr w W Nil)
    (hro : W.ownsRow 0 28 1 (.slice (some ⟨gb, 0, none⟩) n n) n vs) (hrk : RowsOk W w.heap.size vs G) (hu : vs[i]? = some u) (hx : OwnInts W 3 u xs) (hn : NewFrom w.heap.size u)
    (ho : w2.ownsRow 0 3 1 u' (xs.length + 1) (xs.map (Value.int .i64) ++ [.int .i64 x])) (hg : (W.alloc ob).grownBy w2 u.ownBlock) (hb : u'.ownBlock = u.ownBlock ∨ u'.ownBlock = some (W.heap.size + 1)) :
    (w2.setCell ⟨gb, i, none⟩ u').ownsRow 0 28 1 (.slice (some ⟨gb, 0, none⟩) n n) n (vs.set i u') ∧ RowsOk (w2.setCell ⟨gb, i, none⟩ u') w.heap.size (vs.set i u') (G.set i (xs ++ [x])) ∧ Fr w (w2.setCell ⟨gb, i, none⟩ u') Nil := by
  have hf2 : Fr W w2 (fun k => u.ownBlock = some k) := ((Fr.refl W _).alloc ob).grown hg fun k hk _ => hk
  obtain ⟨curg, hgw⟩ := gb_type hro
  have hug : ∀ k, u.ownBlock = some k → k ≠ gb := by
    intro k hk e
    subst e
    obtain ⟨cur, hc⟩ := own_type hx hk
    rw [hgw] at hc; simp at hc
  have hro2 := hf2.own hro (fun k hk hk2 => by cases hk; exact hug _ hk2 rfl)
  have hst := World.ownsRow.stored hro2 i u'
  have hf3 : Fr W (w2.setCell ⟨gb, i, none⟩ u') (fun k => u.ownBlock = some k ∨ k = gb) := (hf2.mono fun k _ hk => .inl hk).setCell (p := ⟨gb, i, none⟩) (fun _ => .inr rfl) _
  have hou : OwnInts w2 3 u' (xs ++ [x]) := own_snocZ ho
  have hou3 : OwnInts (w2.setCell ⟨gb, i, none⟩ u') 3 u' (xs ++ [x]) := by
    refine ownsRow_setCell_other (a := ⟨gb, i, none⟩) hou (fun e => ?_) u'
    obtain ⟨cur, hc⟩ := own_type hou e
    obtain ⟨cur2, hc2⟩ := gb_type hro2
    rw [hc2] at hc; simp at hc
  have hnu : NewFrom w.heap.size u' := by
    intro k hk
    rcases hb with hb | hb
    · exact hn k (by rw [← hb, hk])
    · rw [hk] at hb; cases hb; have := hfr.size; omega
  refine ⟨hst.1, hrk.set hu hf3 (fun k cur hc hk => ?_) hou3 hnu (hb.imp id fun hb k hk => ?_), hfr.trans hf3 fun k hk hs => ?_⟩
  · subst hk
    rw [hgw] at hc; simp at hc
  · rw [hk] at hb; cases hb; omega
  · rcases hs with hs | rfl
    · have := hn k hs; omega
    · omega

theorem RowsOk.weak {W : World} {B B' : Nat} {vs : List Value} {G : List (List Int)} (h : RowsOk W B vs G) (hb : B' ≤ B) : RowsOk W B' vs G :=
  ⟨h.1, fun i xs hi => by obtain ⟨u, h1, h2, h3⟩ := h.2.1 i xs hi; exact ⟨u, h1, h2, fun k hk => Nat.le_trans hb (h3 k hk)⟩, h.2.2⟩
/-- One element of one row is overwritten. -/
theorem rows_poke {w W : World} {gb n i k ub ucap : Nat} {vs : List Value} {G : List (List Int)} {xs : List Int} (x : Int) (hfr : Fr w W Nil)
    (hro : W.ownsRow 0 28 1 (.slice (some ⟨gb, 0, none⟩) n n) n vs) (hrk : RowsOk W w.heap.size vs G) (hu : vs[i]? = some (.slice (some ⟨ub, 0, none⟩) xs.length ucap)) (hx : OwnInts W 3 (.slice (some ⟨ub, 0, none⟩) xs.length ucap) xs) (hn : NewFrom w.heap.size (.slice (some ⟨ub, 0, none⟩) xs.length ucap)) :
    (W.setCell ⟨ub, k, none⟩ (.int .i64 x)).ownsRow 0 28 1 (.slice (some ⟨gb, 0, none⟩) n n) n vs ∧ RowsOk (W.setCell ⟨ub, k, none⟩ (.int .i64 x)) w.heap.size vs (G.set i (xs.set k x)) ∧ Fr w (W.setCell ⟨ub, k, none⟩ (.int .i64 x)) Nil ∧
      ∀ v ys, OwnInts W 2 v ys → OwnInts (W.setCell ⟨ub, k, none⟩ (.int .i64 x)) 2 v ys := by
  have hf : Fr W (W.setCell ⟨ub, k, none⟩ (.int .i64 x)) (fun j => j = ub) := Fr.store W ub k _
  obtain ⟨cur, hcu⟩ := own_type hx (k := ub) rfl
  obtain ⟨curg, hgw⟩ := gb_type hro
  have hst := World.ownsRow.stored hx k (.int .i64 x)
  have hou : OwnInts (W.setCell ⟨ub, k, none⟩ (.int .i64 x)) 3 (.slice (some ⟨ub, 0, none⟩) xs.length ucap) (xs.set k x) := by
    unfold OwnInts
    rw [List.length_set, List.map_set]
    exact hst.1
  have hvs : vs.set i (.slice (some ⟨ub, 0, none⟩) xs.length ucap) = vs := by
    obtain ⟨h1, h2⟩ := List.getElem?_eq_some_iff.1 hu
    rw [← h2]
    exact List.set_getElem_self h1
  refine ⟨hf.own hro fun j hj e => ?_, ?_, hfr.trans hf fun j hj e => ?_, fun v ys hy => hy.fr hf fun j hj e => ?_⟩
  · cases hj; subst e
    rw [hgw] at hcu; simp at hcu
  · have := hrk.set (S := fun _ => False) (u' := .slice (some ⟨ub, 0, none⟩) xs.length ucap) hu (hf.mono fun j _ hj => .inl (by subst hj; rfl)) (fun _ _ _ h => h) hou hn (.inl rfl)
    rwa [hvs] at this
  · subst e
    have := hn j rfl; omega
  · subst e
    obtain ⟨c2, hc2⟩ := own_type hy hj
    rw [hc2] at hcu; simp at hcu
def Small (G : List (List Int)) : Prop := ∀ xs ∈ G, xs.length ≤ 1000
theorem Small.set {G : List (List Int)} {i : Nat} {xs : List Int} (h : Small G) (hx : xs.length ≤ 1000) : Small (G.set i xs) := by
  intro ys hy
  rcases List.mem_or_eq_of_mem_set hy with h1 | rfl
  · exact h ys h1
  · exact hx
theorem graphW_small {who : List Int} {ts : List TouchD} (h : who.length ≤ 1000) : Small (graphW who ts) := by
  intro xs hx
  obtain ⟨x, _, rfl⟩ := List.mem_map.1 hx
  have := edgeRow_len who ts x
  rw [ints_len]; omega
/-- Of node a the first m of the others to which it points. -/
def rowF (who : List Int) (ts : List TouchD) (a m : Nat) : List Nat := (List.range m).filter fun b => ptsP (who.getD a 0) (who.getD b 0) ts
theorem rowF_succ (who : List Int) (ts : List TouchD) (a m : Nat) : rowF who ts a (m + 1) = if ptsP (who.getD a 0) (who.getD m 0) ts then rowF who ts a m ++ [m] else rowF who ts a m := by
  unfold rowF
  rw [List.range_succ, List.filter_append]
  cases h : ptsP (who.getD a 0) (who.getD m 0) ts
  · rw [List.filter_cons_of_neg (by rw [h]; simp)]; simp
  · rw [List.filter_cons_of_pos (by rw [h])]; simp
theorem rowF_len (who : List Int) (ts : List TouchD) (a m : Nat) : (rowF who ts a m).length ≤ m := by
  unfold rowF
  refine Nat.le_trans (List.length_filter_le _ _) (by simp)
def bound (n i k a : Nat) : Nat := if a < i then n else if a = i then k else 0
/-- What has been built, k of row i having been asked. -/
def rG (who : List Int) (ts : List TouchD) (i k : Nat) : List (List Int) := (List.range who.length).map fun a => ints (rowF who ts a (bound who.length i k a))
theorem rG_len (who : List Int) (ts : List TouchD) (i k : Nat) : (rG who ts i k).length = who.length := by simp [rG]
theorem rG_get {who : List Int} {ts : List TouchD} {i k a : Nat} (ha : a < who.length) : (rG who ts i k)[a]? = some (ints (rowF who ts a (bound who.length i k a))) := by
  simp [rG, ha]
theorem rG_ext {who : List Int} {ts : List TouchD} {i k : Nat} {G : List (List Int)} (hl : G.length = who.length) (h : ∀ a, a < who.length → G[a]? = some (ints (rowF who ts a (bound who.length i k a)))) : G = rG who ts i k := by
  refine List.ext_getElem? fun a => ?_
  by_cases ha : a < who.length
  · rw [h a ha, rG_get ha]
  · rw [List.getElem?_eq_none (by omega), List.getElem?_eq_none (by rw [rG_len]; omega)]
theorem rG_zero (who : List Int) (ts : List TouchD) : List.replicate who.length [] = rG who ts 0 0 := by
  refine rG_ext (by simp) fun a ha => ?_
  rw [List.getElem?_replicate, if_pos ha]
  have : bound who.length 0 0 a = 0 := by unfold bound; split <;> (try omega); split <;> rfl
  rw [this]; rfl
theorem rG_next (who : List Int) (ts : List TouchD) (i : Nat) : rG who ts i who.length = rG who ts (i + 1) 0 := by
  refine rG_ext (rG_len _ _ _ _) fun a ha => ?_
  rw [rG_get ha]
  have : bound who.length i who.length a = bound who.length (i + 1) 0 a := by
    unfold bound
    by_cases h1 : a < i
    · rw [if_pos h1, if_pos (by omega)]
    · rw [if_neg h1]
      by_cases h2 : a = i
      · rw [if_pos h2, if_pos (by omega)]
      · rw [if_neg h2, if_neg (by omega)]
        split <;> rfl
  rw [this]
theorem rG_at {who : List Int} {ts : List TouchD} {i k : Nat} (hi : i < who.length) : (rG who ts i k)[i]? = some (ints (rowF who ts i k)) := by
  rw [rG_get hi]
  have : bound who.length i k i = k := by unfold bound; rw [if_neg (by omega), if_pos rfl]
  rw [this]
theorem rG_skip {who : List Int} {ts : List TouchD} {i k : Nat} (h : ptsP (who.getD i 0) (who.getD k 0) ts = false) : rG who ts i k = rG who ts i (k + 1) := by
  refine rG_ext (rG_len _ _ _ _) fun a ha => ?_
  rw [rG_get ha]
  by_cases e : a = i
  · subst e
    have e1 : bound who.length a k a = k := by unfold bound; rw [if_neg (by omega), if_pos rfl]
    have e2 : bound who.length a (k + 1) a = k + 1 := by unfold bound; rw [if_neg (by omega), if_pos rfl]
    rw [e1, e2, rowF_succ, h]; rfl
  · have : bound who.length i k a = bound who.length i (k + 1) a := by unfold bound; rw [if_neg e, if_neg e]
    rw [this]
theorem rG_put {who : List Int} {ts : List TouchD} {i k : Nat} (hi : i < who.length) (h : ptsP (who.getD i 0) (who.getD k 0) ts = true) : (rG who ts i k).set i (ints (rowF who ts i k) ++ [(k : Int)]) = rG who ts i (k + 1) := by
  refine rG_ext (by rw [List.length_set, rG_len]) fun a ha => ?_
  by_cases e : a = i
  · subst e
    rw [List.getElem?_set_self (by rw [rG_len]; exact ha)]
    have e2 : bound who.length a (k + 1) a = k + 1 := by unfold bound; rw [if_neg (by omega), if_pos rfl]
    rw [e2, rowF_succ, h, if_pos rfl]
    simp [ints]
  · rw [List.getElem?_set_ne (fun h => e h.symm), rG_get ha]
    have : bound who.length i k a = bound who.length i (k + 1) a := by unfold bound; rw [if_neg e, if_neg e]
    rw [this]
theorem ptsP_iff {a b : Int} : ∀ {ts : List TouchD}, ptsP a b ts = true ↔ ∃ (i j : Nat) (x y : TouchD), j < i ∧ ts[i]? = some y ∧ ts[j]? = some x ∧ conf x y = true ∧ x.who = a ∧ y.who = b
  | [] => by simp [ptsP]
  | t :: l => by
    rw [show ptsP a b (t :: l) = (((t.who == a) && l.any (hitP b t)) || ptsP a b l) from rfl, Bool.or_eq_true, ptsP_iff (ts := l)]
    constructor
    · rintro (h | ⟨i, j, x, y, h1, h2, h3, h4⟩)
      · rw [Bool.and_eq_true, beq_iff_eq, List.any_eq_true] at h
        obtain ⟨h1, u, hu, h2⟩ := h
        unfold hitP at h2
        rw [Bool.and_eq_true, beq_iff_eq] at h2
        obtain ⟨i, hi⟩ := List.getElem?_of_mem hu
        exact ⟨i + 1, 0, t, u, by omega, by simpa using hi, rfl, h2.2, h1, h2.1⟩
      · exact ⟨i + 1, j + 1, x, y, by omega, by simpa using h2, by simpa using h3, h4⟩
    · rintro ⟨i, j, x, y, h1, h2, h3, h4, h5, h6⟩
      obtain ⟨i, rfl⟩ : ∃ i', i = i' + 1 := ⟨i - 1, by omega⟩
      cases j with
      | zero =>
        left
        simp at h3 h2
        subst h3
        rw [Bool.and_eq_true, beq_iff_eq, List.any_eq_true]
        exact ⟨h5, y, List.mem_of_getElem? h2, by unfold hitP; rw [h4, h6]; simp⟩
      | succ j =>
        right
        exact ⟨i, j, x, y, by omega, by simpa using h2, by simpa using h3, h4, h5, h6⟩
theorem ptsP_eq (ts : List TouchD) (a b : Int) : ptsP a b ts = pts ts a b := by
  rw [Bool.eq_iff_iff, ptsP_iff, pts_iff]
theorem rG_done (who : List Int) (ts : List TouchD) : rG who ts who.length 0 = graphW who ts := by
  symm
  refine rG_ext (graphW_len _ _) fun a ha => ?_
  have : bound who.length who.length 0 a = who.length := by unfold bound; rw [if_pos ha]
  rw [this, graphW_at (List.getElem?_eq_getElem ha)]
  congr 2
  unfold edgeRow rowF
  refine List.filter_congr fun b _ => ?_
  rw [ptsP_eq]
  simp [List.getD_eq_getElem?_getD, ha]
end Go.Proofs.Ytegejcmihojhbaa
