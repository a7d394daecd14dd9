/-
  Walk of Put.
  No condition but sizes.
-/
import Derived.Test.YtjpenaodkfljhaaRwIns
import Derived.Deep.RegionWith
namespace Go.Proofs.Ytjpenaodkfljhaa
open Go Go.RowKit
attribute [local go_sem ↓] Go.wp_at_zero Go.wp_at_succ

def MTab.put (T : MTab) (k : Int) (cols : List Int) : MTab := (T.1, T.2.filter (fun r => r.1 < k) ++ (k, cols) :: T.2.filter (fun r => k < r.1))
def mput (M : List MTab) (i k : Int) (cols : List Int) : List MTab × Int :=
  if (mtab M i).1 = 0 ∨ cols.length ≠ (mtab M i).1 then (M, 2) else (M.set i.toNat ((mtab M i).put k cols), 0)

theorem put_parts {A B : List (Int × List Int)} {k : Int} (hA : ∀ r ∈ A, r.1 < k) (hB : ∀ r ∈ B, k ≤ r.1) : (A ++ B).filter (fun r => r.1 < k) = A ∧ (A ++ B).filter (fun r => k < r.1) = B.filter (fun r => k < r.1) := by
  constructor
  · rw [List.filter_append, List.filter_eq_self.2 (fun r hr => by simpa using hA r hr), List.filter_eq_nil_iff.2 (fun r hr => by simpa using hB r hr), List.append_nil]
  · rw [List.filter_append, List.filter_eq_nil_iff.2 (fun r hr => by have := hA r hr; simp; omega), List.nil_append]
theorem lb_parts {g : List GRow} (hs : Sorted g) (k : Int) : (∀ r ∈ g.take (lbK g k), r.key < k) ∧ (∀ r ∈ g.drop (lbK g k), k ≤ r.key) := by
  have h := sorted_of_lt hs (k := k)
  constructor
  · intro r hr
    obtain ⟨j, hj⟩ := List.getElem?_of_mem hr
    rw [List.getElem?_take] at hj
    split at hj
    · exact h.1 j r (by assumption) hj
    · cases hj
  · intro r hr
    obtain ⟨j, hj⟩ := List.getElem?_of_mem hr
    rw [List.getElem?_drop] at hj
    exact h.2 _ r (by omega) hj
theorem filter_gt {g : List GRow} {k : Int} (h : ∀ r ∈ g, k < r.key) : (rowsOf g).filter (fun r => k < r.1) = rowsOf g := by
  rw [List.filter_eq_self]
  intro r hr
  simp only [rowsOf, List.mem_map] at hr
  obtain ⟨x, hx, rfl⟩ := hr
  simpa using h x hx
/-- The row is there: it is replaced. -/
theorem put_mod_found {t : GTab} (hs : Sorted t.rows) {k : Int} {r : GRow} (hr : t.rows[lbK t.rows k]? = some r) (hk : r.key = k) (cv : Value) (xs : List Int) :
    GTab.mod { t with rows := t.rows.take (lbK t.rows k) ++ ⟨k, cv, xs⟩ :: t.rows.drop (lbK t.rows k + 1) } = t.mod.put k xs := by
  obtain ⟨h1, h2⟩ := lb_parts hs k
  obtain ⟨hsp, _⟩ := split_at hr
  have hgt : ∀ x ∈ t.rows.drop (lbK t.rows k + 1), k < x.key := by
    intro x hx
    obtain ⟨j, hj⟩ := List.getElem?_of_mem hx
    rw [List.getElem?_drop] at hj
    have := hs.lt hr hj (by omega)
    omega
  generalize lbK t.rows k = n at *
  have e : (GTab.mod t).2 = rowsOf (t.rows.take n) ++ ((k, r.cols) :: rowsOf (t.rows.drop (n + 1))) := by
    show rowsOf t.rows = _
    conv => lhs; rw [hsp]
    simp [rowsOf, hk]
  unfold MTab.put
  rw [e]
  have hp := put_parts (A := rowsOf (t.rows.take n)) (B := (k, r.cols) :: rowsOf (t.rows.drop (n + 1))) (k := k)
    (by intro x hx; simp only [rowsOf, List.mem_map] at hx; obtain ⟨y, hy, rfl⟩ := hx; exact h1 y hy)
    (by
      intro x hx
      simp only [List.mem_cons, rowsOf, List.mem_map] at hx
      rcases hx with rfl | ⟨y, hy, rfl⟩
      · exact Int.le_refl _
      · exact Int.le_of_lt (hgt y hy))
  rw [hp.1, hp.2]
  have : ((k, r.cols) :: rowsOf (t.rows.drop (n + 1))).filter (fun r => decide (k < r.1)) = rowsOf (t.rows.drop (n + 1)) := by
    rw [List.filter_cons_of_neg (by simp)]
    exact filter_gt hgt
  rw [this]
  simp [GTab.mod, rowsOf]
/-- It is not: it is put in between. -/
theorem put_mod_ins {t : GTab} (hs : Sorted t.rows) {k : Int} (hn : ¬ ∃ r ∈ t.rows, r.key = k) (cv : Value) (xs : List Int) :
    GTab.mod { t with rows := t.rows.take (lbK t.rows k) ++ ⟨k, cv, xs⟩ :: t.rows.drop (lbK t.rows k) } = t.mod.put k xs := by
  obtain ⟨h1, h2⟩ := lb_parts hs k
  have hgt : ∀ x ∈ t.rows.drop (lbK t.rows k), k < x.key := by
    intro x hx
    have := h2 x hx
    have hne : x.key ≠ k := fun e => hn ⟨x, List.mem_of_mem_drop hx, e⟩
    omega
  generalize lbK t.rows k = n at *
  have e : (GTab.mod t).2 = rowsOf (t.rows.take n) ++ rowsOf (t.rows.drop n) := by
    show rowsOf t.rows = _
    rw [rowsOf, rowsOf, rowsOf, ← List.map_append, List.take_append_drop]
  unfold MTab.put
  rw [e]
  have hp := put_parts (A := rowsOf (t.rows.take n)) (B := rowsOf (t.rows.drop n)) (k := k)
    (by intro x hx; simp only [rowsOf, List.mem_map] at hx; obtain ⟨y, hy, rfl⟩ := hx; exact h1 y hy)
    (by intro x hx; simp only [rowsOf, List.mem_map] at hx; obtain ⟨y, hy, rfl⟩ := hx; exact h2 y hy)
  rw [hp.1, hp.2, filter_gt hgt]
  simp [GTab.mod, rowsOf]

def RetUpdE (R : GRows) (w : World) (x : List MTab × Int) (e : Ending) (w' : World) : Prop :=
  e = .returned (.int .i64 x.2) ∧ Upd R w x.1 w'

/-- A table has got other rows: all that is asked of the new ones. -/
theorem upd_rows {R : GRows} {w w' : World} {S : Nat → Prop} (h : RowsAt w R) (hn : (gBlocks R).Nodup) {i : Nat} {t : GTab} (ht : R.tabs[i]? = some t) {lv : Value} {g : List GRow}
    (hf : Fr w w' S) (hS : ∀ k, S k → k ∈ tBlocks t) (hblk : Bk w' t.tb 98 [.int .i64 t.n, lv]) (hrl : RL w' lv g) (hn' : (rlBlocks lv g).Nodup) (hb : ∀ k ∈ rlBlocks lv g, k ∈ rlBlocks t.lv t.rows ∨ w.heap.size ≤ k) :
    Upd R w (R.mod.set i (t.n, rowsOf g)) w' := by
  have htn := tBlocks_nodup hn ht
  have hta := h.tabs t (List.mem_of_getElem? ht)
  have key := h.upd hn ht (t' := ⟨t.tb, t.n, lv, g⟩) rfl hf hS ⟨hblk, hrl⟩
    (by
      refine List.nodup_cons.2 ⟨fun hm => ?_, hn'⟩
      rcases hb _ hm with h1 | h1
      · exact (List.nodup_cons.1 htn).1 h1
      · have h2 : w.heap.size ≤ t.tb := h1
        have := hta.blk.lt; omega)
    (fun k hk => by
      simp only [tBlocks, List.mem_cons] at hk ⊢
      rcases hk with rfl | hk
      · exact .inl (.inl rfl)
      · exact (hb k hk).imp (fun h => .inr h) id)
  refine ⟨R.upd i ⟨t.tb, t.n, lv, g⟩, rfl, key.1, key.2.1, key.2.2.1, hf.mono fun k _ hk => key.2.2.2 k hk, ?_⟩
  rw [GRows.upd_mod]
  rfl

theorem rl_put (g : List GRow) (n : Nat) (lv : Value) (x : GRow) : rlBlocks lv (g.take n ++ x :: g.drop (n + 1)) = (lv.ownBlock.toList ++ (g.take n).flatMap fun r => r.cv.ownBlock.toList) ++ x.cv.ownBlock.toList ++ (g.drop (n + 1)).flatMap fun r => r.cv.ownBlock.toList := by
  simp [rlBlocks]
theorem rl_split {g : List GRow} {n : Nat} {r : GRow} (hr : g[n]? = some r) (lv : Value) : rlBlocks lv g = (lv.ownBlock.toList ++ (g.take n).flatMap fun r => r.cv.ownBlock.toList) ++ r.cv.ownBlock.toList ++ (g.drop (n + 1)).flatMap fun r => r.cv.ownBlock.toList := by
  conv => lhs; rw [(split_at hr).1]
  simp [rlBlocks]

/-- A row is put in another's place. -/
theorem put_here {R : GRows} {w w3 : World} (h : RowsAt w R) (hn : (gBlocks R).Nodup) {i : Nat} {t : GTab} (ht : R.tabs[i]? = some t) (hs : Sorted t.rows) {k : Int} {r : GRow} (hr : t.rows[lbK t.rows k]? = some r) (hk : r.key = k)
    {b cap : Nat} (hlv : t.lv = .slice (some ⟨b, 0, none⟩) t.rows.length cap) {cv : Value} {xs : List Int} (hc : Cloned xs w cv w3) :
    Upd R w (R.mod.set i (t.mod.put k xs)) ((w3.setCell ⟨b, lbK t.rows k * 2, none⟩ (.int .i64 k)).setCell ⟨b, lbK t.rows k * 2 + 1, none⟩ cv) := by
  have htn := tBlocks_nodup hn ht
  have hrn := (List.nodup_cons.1 htn).2
  have hta := h.tabs t (List.mem_of_getElem? ht)
  have hta3 : TabAt w3 t := hta.fr hc.2.2 fun _ _ h => h
  have hmod := put_mod_found hs hr hk cv xs
  generalize lbK t.rows k = n at *
  have hi := (List.getElem?_eq_some_iff.1 hr).1
  have hob : t.lv.ownBlock = some b := by rw [hlv]; rfl
  have hbt : b ∈ tBlocks t := by simp [tBlocks, rlBlocks, hob]
  have hf3 : Fr w3 ((w3.setCell ⟨b, n * 2, none⟩ (.int .i64 k)).setCell ⟨b, n * 2 + 1, none⟩ cv) (fun j => j = b) := (Fr.store _ _ _ _).transS (Fr.store _ _ _ _)
  have hf : Fr w ((w3.setCell ⟨b, n * 2, none⟩ (.int .i64 k)).setCell ⟨b, n * 2 + 1, none⟩ cv) (fun j => j = b) := hc.2.2.of_nil.transS hf3
  have hne : t.tb ≠ b := fun e => (List.nodup_cons.1 htn).1 (by rw [e]; simp [rlBlocks, hob])
  have hcvn : ∀ j, cv.ownBlock = some j → w.heap.size ≤ j := hc.2.1
  have hsp := rl_split hr t.lv
  have hbm : ∀ j ∈ rlBlocks t.lv t.rows, j < w.heap.size := hta.rl.lt
  rw [hsp] at hrn
  have hmid := (nodup_mid hrn)
  have hAB : b ∉ (t.rows.take n).flatMap (fun r => r.cv.ownBlock.toList) ∧ b ∉ (t.rows.drop (n + 1)).flatMap (fun r => r.cv.ownBlock.toList) := by
    have h1 : (([] : List Nat) ++ [b] ++ ((t.rows.take n).flatMap (fun r => r.cv.ownBlock.toList) ++ (r.cv.ownBlock.toList ++ (t.rows.drop (n + 1)).flatMap fun r => r.cv.ownBlock.toList))).Nodup := by
      simpa [hob, List.append_assoc] using hrn
    have h2 := ((nodup_mid h1).1 b (by simp)).2
    simp only [List.mem_append, not_or] at h2
    exact ⟨h2.1, h2.2.2⟩
  have key := upd_rows (g := t.rows.take n ++ ⟨k, cv, xs⟩ :: t.rows.drop (n + 1)) (lv := t.lv) h hn ht hf (fun j hj => by rw [hj]; exact hbt)
    (hta.blk.fr hf fun e => hne e) ?_ ?_ ?_
  · rw [← hmod]
    exact key
  · refine ⟨?_, ?_⟩
    · have ho := hta3.rl.own
      rw [hlv] at ho ⊢
      have h1 := (ho.stored (n * 2) (.int .i64 k)).1
      have h2 := (h1.stored (n * 2 + 1) cv).1
      have hl : (t.rows.take n ++ GRow.mk k cv xs :: t.rows.drop (n + 1)).length = t.rows.length := by simp; omega
      have hfl : flatR (t.rows.take n ++ GRow.mk k cv xs :: t.rows.drop (n + 1)) = ((flatR t.rows).set (n * 2) (.int .i64 k)).set (n * 2 + 1) cv := by
        apply List.ext_getElem?
        intro j
        obtain ⟨q, rfl | rfl⟩ : ∃ q, j = q * 2 ∨ j = q * 2 + 1 := ⟨j / 2, by omega⟩
        · rw [flatR_key, List.getElem?_set_ne (by omega)]
          by_cases hq : q = n
          · subst hq
            rw [List.getElem?_set_self (by rw [length_flatR]; omega), List.getElem?_append_right (by simp; omega)]
            simp [Nat.min_eq_left (Nat.le_of_lt hi)]
          · rw [List.getElem?_set_ne (by omega), flatR_key]
            congr 1
            by_cases hq2 : q < n
            · rw [List.getElem?_append_left (by simp; omega), List.getElem?_take, if_pos hq2]
            · rw [List.getElem?_append_right (by simp; omega)]
              have : q - (t.rows.take n).length = (q - (n + 1)) + 1 := by simp; omega
              rw [this, List.getElem?_cons_succ, List.getElem?_drop]
              congr 1; omega
        · rw [flatR_cv]
          by_cases hq : q = n
          · subst hq
            rw [List.getElem?_set_self (by simp [length_flatR]; omega), List.getElem?_append_right (by simp; omega)]
            simp [Nat.min_eq_left (Nat.le_of_lt hi)]
          · rw [List.getElem?_set_ne (by omega), List.getElem?_set_ne (by omega), flatR_cv]
            congr 1
            by_cases hq2 : q < n
            · rw [List.getElem?_append_left (by simp; omega), List.getElem?_take, if_pos hq2]
            · rw [List.getElem?_append_right (by simp; omega)]
              have : q - (t.rows.take n).length = (q - (n + 1)) + 1 := by simp; omega
              rw [this, List.getElem?_cons_succ, List.getElem?_drop]
              congr 1; omega
      rw [hl, hfl]
      exact h2
    · intro x hx
      simp only [List.mem_append, List.mem_cons] at hx
      rcases hx with hx | rfl | hx
      · refine (hta3.rl.cols x (List.mem_of_mem_take hx)).fr hf3 fun j hj e => hAB.1 ?_
        simp only [List.mem_flatMap]
        exact ⟨x, hx, by simp [hj, e]⟩
      · refine hc.1.fr hf3 fun j hj e => ?_
        have h1 := hcvn j hj
        have h2 := hbm b (by simp [rlBlocks, hob])
        have e' : j = b := e
        omega
      · refine (hta3.rl.cols x (List.mem_of_mem_drop hx)).fr hf3 fun j hj e => hAB.2 ?_
        simp only [List.mem_flatMap]
        exact ⟨x, hx, by simp [hj, e]⟩
  · rw [rl_put]
    refine nodup_replace (N := w.heap.size) hrn (by cases cv.ownBlock <;> simp) (fun j hj => .inr (hcvn j (by simpa using hj))) ?_ ?_
    · intro j hj; exact hbm j (by rw [hsp]; simp only [List.mem_append] at hj ⊢; exact .inl (.inl hj))
    · intro j hj; exact hbm j (by rw [hsp]; simp only [List.mem_append]; exact .inr hj)
  · intro j hj
    rw [rl_put] at hj
    rw [hsp]
    simp only [List.mem_append] at hj ⊢
    rcases hj with (hj | hj) | hj
    · exact .inl (.inl (.inl hj))
    · exact .inr (hcvn j (by simpa using hj))
    · exact .inl (.inr hj)

theorem rl_ins (g : List GRow) (n : Nat) (lv : Value) (x : GRow) : rlBlocks lv (g.take n ++ x :: g.drop n) = lv.ownBlock.toList ++ ((g.take n).flatMap (fun r => r.cv.ownBlock.toList) ++ x.cv.ownBlock.toList ++ (g.drop n).flatMap fun r => r.cv.ownBlock.toList) := by
  simp [rlBlocks]
theorem flat_take_drop (g : List GRow) (n : Nat) : g.flatMap (fun r => r.cv.ownBlock.toList) = (g.take n).flatMap (fun r => r.cv.ownBlock.toList) ++ (g.drop n).flatMap fun r => r.cv.ownBlock.toList := by
  rw [← List.flatMap_append, List.take_append_drop]

/-- A row is put in between: w1: its values are cloned; w3: the slice is the new one; w': it is in the table. -/
theorem put_ins {R : GRows} {w w1 w2 w3 : World} (h : RowsAt w R) (hn : (gBlocks R).Nodup) {i : Nat} {t : GTab} (ht : R.tabs[i]? = some t) (hs : Sorted t.rows) {k : Int} (hnk : ¬ ∃ r ∈ t.rows, r.key = k)
    {cv : Value} {xs : List Int} (hc : Cloned xs w cv w1) (hf12 : Fr w1 w2 Nil) {b cap : Nat} (ho : w3.ownsRow 0 102 2 (.slice (some ⟨b, 0, none⟩) (t.rows.length + 1) cap) (t.rows.length + 1) (flatR (t.rows.take (lbK t.rows k)) ++ [.int .i64 k, cv] ++ flatR (t.rows.drop (lbK t.rows k))))
    (hf23 : Fr w2 w3 (fun j => t.lv.ownBlock = some j)) (hb : t.lv.ownBlock = some b ∨ w2.heap.size ≤ b) :
    Upd R w (R.mod.set i (t.mod.put k xs)) (w3.setCell ⟨t.tb, 1, none⟩ (.slice (some ⟨b, 0, none⟩) (t.rows.length + 1) cap)) := by
  have htn := tBlocks_nodup hn ht
  have hrn := (List.nodup_cons.1 htn).2
  have htbn := (List.nodup_cons.1 htn).1
  have hta := h.tabs t (List.mem_of_getElem? ht)
  have hmod := put_mod_ins hs hnk cv xs
  have hle := lbK_le t.rows k
  generalize lbK t.rows k = n at *
  have hs1 := hc.2.2.size
  have hs2 := hf12.size
  have hs3 := hf23.size
  have hf02 : Fr w w2 Nil := hc.2.2.trans0 hf12
  have hf03 : Fr w w3 (fun j => t.lv.ownBlock = some j) := hf02.of_nil.transS hf23
  let w' := w3.setCell ⟨t.tb, 1, none⟩ (.slice (some ⟨b, 0, none⟩) (t.rows.length + 1) cap)
  have hf3 : Fr w3 w' (fun j => j = t.tb) := Fr.store _ _ _ _
  have hcvn : ∀ j, cv.ownBlock = some j → w.heap.size ≤ j := hc.2.1
  have hcvl : ∀ j, cv.ownBlock = some j → j < w1.heap.size := hc.1.lt
  have hbm : ∀ j ∈ rlBlocks t.lv t.rows, j < w.heap.size := hta.rl.lt
  have hlvm : ∀ j, t.lv.ownBlock = some j → j ∈ rlBlocks t.lv t.rows := fun j hj => by simp [rlBlocks, hj]
  have htl := hta.blk.lt
  have hbt : b ≠ t.tb := by
    intro e
    rcases hb with h1 | h1
    · exact htbn (e ▸ hlvm b h1)
    · omega
  have hbc : cv.ownBlock ≠ some b := by
    intro e
    have h1 := hcvn b e
    have h2 := hcvl b e
    rcases hb with h3 | h3
    · have := hbm b (hlvm b h3); omega
    · omega
  have hnn : (t.lv.ownBlock.toList ++ t.rows.flatMap fun r => r.cv.ownBlock.toList).Nodup := hrn
  have hnp := List.nodup_append.1 hnn
  have hbr : b ∉ t.rows.flatMap (fun r => r.cv.ownBlock.toList) := by
    intro hm
    rcases hb with h1 | h1
    · exact hnp.2.2 b (by simp [h1]) b hm rfl
    · have := hbm b (by simp only [rlBlocks, List.mem_append]; exact .inr hm); omega
  have hlvc : ∀ j, t.lv.ownBlock = some j → j ∉ t.rows.flatMap (fun r => r.cv.ownBlock.toList) := fun j hj hm => hnp.2.2 j (by simp [hj]) j hm rfl
  have key := upd_rows (g := t.rows.take n ++ ⟨k, cv, xs⟩ :: t.rows.drop n) (lv := .slice (some ⟨b, 0, none⟩) (t.rows.length + 1) cap) (w' := w') (S := fun j => t.lv.ownBlock = some j ∨ j = t.tb) h hn ht
    ((hf03.mono fun _ _ h => .inl h).transS (hf3.mono fun _ _ h => .inr h)) (fun j hj => by
      rcases hj with hj | rfl
      · exact List.mem_cons_of_mem _ (hlvm j hj)
      · exact List.mem_cons_self) ?_ ?_ ?_ ?_
  · rw [← hmod]
    exact key
  · have h3 : Bk w3 t.tb 98 [.int .i64 t.n, t.lv] := hta.blk.fr hf03 fun e => htbn (hlvm _ e)
    exact h3.set 1 _
  · refine ⟨?_, ?_⟩
    · have hl : (t.rows.take n ++ GRow.mk k cv xs :: t.rows.drop n).length = t.rows.length + 1 := by simp; omega
      have hfl : flatR (t.rows.take n ++ GRow.mk k cv xs :: t.rows.drop n) = flatR (t.rows.take n) ++ [.int .i64 k, cv] ++ flatR (t.rows.drop n) := by simp [flatR]
      rw [hl, hfl]
      exact hf3.own ho fun j hj e => hbt (by cases hj; exact e)
    · intro x hx
      have hfo : ∀ y ∈ t.rows, OwnInts w' 2 y.cv y.cols := by
        intro y hy
        refine ((hta.rl.cols y hy).fr hf03 fun j hj e => ?_).fr hf3 fun j hj e => ?_
        · exact hlvc j e (by simp only [List.mem_flatMap]; exact ⟨y, hy, by simp [hj]⟩)
        · refine htbn ?_
          have e' : j = t.tb := e
          rw [← e']
          simp only [rlBlocks, List.mem_append, List.mem_flatMap]
          exact .inr ⟨y, hy, by simp [hj]⟩
      simp only [List.mem_append, List.mem_cons] at hx
      rcases hx with hx | rfl | hx
      · exact hfo x (List.mem_of_mem_take hx)
      · refine (((hc.1.fr hf12 fun _ _ h => h).fr hf23 fun j hj e => ?_)).fr hf3 fun j hj e => ?_
        · have h1 := hcvn j hj
          have := hbm j (hlvm j e); omega
        · have h1 := hcvn j hj
          have e' : j = t.tb := e
          omega
      · exact hfo x (List.mem_of_mem_drop hx)
  · rw [rl_ins]
    show ([b] ++ _).Nodup
    rw [flat_take_drop t.rows n] at hbr hnp
    rw [List.nodup_append]
    refine ⟨by simp, ?_, ?_⟩
    · have h1 : ((t.rows.take n).flatMap (fun r : GRow => r.cv.ownBlock.toList) ++ [] ++ (t.rows.drop n).flatMap fun r : GRow => r.cv.ownBlock.toList).Nodup := by simpa using hnp.2.1
      refine nodup_replace (N := w.heap.size) h1 (by cases cv.ownBlock <;> simp) (fun j hj => .inr (hcvn j (by simpa using hj))) ?_ ?_
      · intro j hj; exact hbm j (by simp only [rlBlocks, flat_take_drop t.rows n, List.mem_append]; exact .inr (.inl hj))
      · intro j hj; exact hbm j (by simp only [rlBlocks, flat_take_drop t.rows n, List.mem_append]; exact .inr (.inr hj))
    · intro j hj j' hj' e
      subst e
      simp only [List.mem_singleton] at hj
      subst hj
      simp only [List.mem_append] at hj' hbr
      rcases hj' with (hj' | hj') | hj'
      · exact hbr (.inl hj')
      · exact hbc (by simpa using hj')
      · exact hbr (.inr hj')
  · intro j hj
    rw [rl_ins] at hj
    simp only [List.mem_append] at hj
    rcases hj with hj | (hj | hj) | hj
    · simp [Value.ownBlock] at hj
      subst hj
      rcases hb with h1 | h1
      · exact .inl (hlvm _ h1)
      · right; omega
    · left; simp only [rlBlocks, flat_take_drop t.rows n, List.mem_append]; exact .inr (.inl hj)
    · exact .inr (hcvn j (by simpa using hj))
    · left; simp only [rlBlocks, flat_take_drop t.rows n, List.mem_append]; exact .inr (.inr hj)

set_option maxRecDepth 100000 in
set_option maxHeartbeats 400000 in
theorem put_any (R : GRows) (i k : Int) (v : Value) (xs : List Int) (w : World) (h : RowsAt w R) (hn : (gBlocks R).Nodup) (hg : Good R.mod) (hv : IntsAt w v xs) (hvl : xs.length ≤ 1000000) :
    Calls Try.prog 15 #[R.val, .int .i64 i, .int .i64 k, v] w (RetUpdE R w (mput R.mod i k xs)) := by
  obtain ⟨av, capv, rfl⟩ := hv.shape
  have H := Lib.hid h
  have Hn := Lib.hid hn
  have Hv := Lib.hid hv
  have hl : R.tabs.length ≤ 1000000 := by have := hg.few; simp [GRows.mod] at this; omega
  have Hg := Lib.hid (hg.at i)
  have HS : Hid (mput R.mod i k xs = mput R.mod i k xs) := rfl
  conv at HS => arg 1; rhs; unfold mput
  clear h hg hn hv
  go_enter Try.func15, Try.ntmps15
  go_wp2_with fail
  refine (table_any R i _ H.out hl).mono ?_
  rintro e w1 ⟨t, rfl, ht, hf, hm, hin⟩
  rw [← hm] at Hg HS
  have Hin := Lib.hid hin
  clear hm hin
  have Ht := Lib.hid ht
  have Hf := Lib.hid hf
  have q0 := ht.blk.cell 0
  clear ht hf
  by_cases h0 : t.mod.1 = 0
  · have h0' : ((t.n : Int) == 0) = true := by rw [beq_iff_eq]; show ((t.mod.1 : Nat) : Int) = 0; omega
    have HS2 : Hid (mput R.mod i k xs = (R.mod, 2)) := by
      have := HS.out
      rw [if_pos (.inl h0)] at this
      exact this
    clear HS h0
    go_wp2_with fail
    go_ret
    rw [HS2.out]
    exact ⟨rfl, Upd.same H.out Hn.out Hf.out⟩
  · have h0' : ((t.n : Int) == 0) = false := by rw [beq_eq_false_iff_ne]; intro e; apply h0; show t.n = 0; omega
    by_cases h1 : xs.length = t.mod.1
    · have h1' : ((xs.length : Int) == (t.n : Int)) = true := by rw [beq_iff_eq]; show (xs.length : Int) = ((t.mod.1 : Nat) : Int); omega
      have h1'' : ((xs.length : Int) != (t.n : Int)) = false := by rw [bne_eq_false_iff_eq]; show (xs.length : Int) = ((t.mod.1 : Nat) : Int); omega
      have HS2 : Hid (mput R.mod i k xs = (R.mod.set i.toNat (t.mod.put k xs), 0)) := by
        have := HS.out
        rw [if_neg (by rw [not_or]; exact ⟨h0, fun h => h h1⟩)] at this
        exact this
      obtain ⟨hi0, hti⟩ : 0 ≤ i ∧ R.tabs[i.toNat]? = some t := by
        rcases Hin.out with h | ⟨_, h⟩
        · exact h
        · rw [h] at h0; exact absurd rfl h0
      have Hti := Lib.hid hti
      clear HS h0 h1 Hin hti hi0
      go_wp2_with fail
      refine (rowclone_any k _ xs _ (Hv.out.fr Hf.out fun _ _ h => h) hvl).mono ?_
      rintro e w2 ⟨a2, c2, rfl, hcl⟩
      have Hcl := Lib.hid (hcl.after Hf.out)
      have Ht2 : Hid (TabAt w2 t) := Ht.out.fr hcl.2.2 fun _ _ h => h
      clear hcl q0
      go_wp2_with fail
      refine (find_any t k _ (Ht2.out.fr ((Fr.refl w2 Nil).alloc _) fun _ _ h => h) Hg.out.sorted' Hg.out.few').mono ?_
      rintro e w3 ⟨rfl, hf3⟩
      have hb3 := (Bk.new w2 102 #[Value.int IntKind.i64 k, Value.slice a2 xs.length c2]).fr hf3 fun h => h
      have hf23 := ((Fr.refl w2 Nil).alloc (Obj.cells #[Value.int IntKind.i64 k, Value.slice a2 xs.length c2] 102)).trans0 hf3
      have Hf23 := Lib.hid hf23
      have Ht3 : Hid (TabAt w3 t) := Ht2.out.fr hf23 fun _ _ h => h
      have x0 := hb3.cell 0
      have x1 := hb3.cell 1
      have q1 := Ht3.out.blk.cell 1
      clear hb3 hf3 hf23
      have hlen := Hg.out.few'
      obtain ⟨al, cl, hlv⟩ := Ht3.out.rl.shape2
      rw [hlv] at q1
      by_cases hx : ∃ r ∈ t.rows, r.key = k
      · obtain ⟨r, hr, hk⟩ := row_found Hg.out.sorted' hx
        have hlt := (List.getElem?_eq_some_iff.1 hr).1
        rcases Ht3.out.rl.shape with ⟨_, h2⟩ | ⟨b, cap, hlv2, _⟩
        · rw [h2] at hlt; simp at hlt
        rw [hlv] at hlv2
        simp only [Value.slice.injEq, true_and] at hlv2
        obtain ⟨rfl, rfl⟩ := hlv2
        have hrl := Ht3.out.rl
        rw [hlv] at hrl
        have p0 := hrl.key _ r hr
        have p1 := hrl.cv _ r hr
        have p2 := World.ownsRow.frozenAt hrl.own (lbK t.rows k * 2)
        have p3 := World.ownsRow.frozenAt hrl.own (lbK t.rows k * 2 + 1)
        have hcl3 : Cloned xs w (.slice a2 xs.length c2) w3 := ⟨(Hcl.out.1.fr Hf23.out fun _ _ h => h), Hcl.out.2.1, Hcl.out.2.2.trans0 Hf23.out⟩
        have HU := Lib.hid (put_here H.out Hn.out Hti.out Hg.out.sorted' hr hk hlv hcl3)
        rw [decide_eq_true hx]
        generalize lbK t.rows k = n at *
        have hlt2 : (n : Int) < (t.rows.length : Int) := by omega
        have hlt3 : (0 : Int) ≤ (n : Int) := by omega
        clear hrl hlv hr hk hx hcl3
        go_wp2_with fail
        go_still_tail 7, (by kernel_rfl)
        change wpList _ _ _ _ _ w3.drew
        go_wp2_with fail
        go_ret
        rw [HS2.out]
        exact ⟨rfl, HU.out.drew⟩
      · rw [decide_eq_false hx]
        have Hx := Lib.hid hx
        have HL := Lib.hid (lbK_le t.rows k)
        have Hlv := Lib.hid hlv
        clear hx hlv
        go_wp2_with fail
        have hwf3 : TabAt w3 t := Ht3.out
        have HI : Hid (Calls Try.prog 51 #[.slice al t.rows.length cl, .int .i64 (lbK t.rows k), .slice (some ⟨w3.heap.size, 0, none⟩) 1 1] (w3.drew.alloc (Obj.cells #[Value.int IntKind.i64 k, Value.slice a2 xs.length c2] 102))
            (InsRet (.slice al t.rows.length cl) t.rows (lbK t.rows k) [.int .i64 k, .slice a2 xs.length c2] (w3.drew.alloc (Obj.cells #[Value.int IntKind.i64 k, Value.slice a2 xs.length c2] 102)))) := by
          have hrl := Ht3.out.rl
          rw [Hlv.out] at hrl
          refine insert_any _ t.rows _ HL.out k a2 xs.length c2 w3.heap.size _ (hrl.fr (((Fr.refl w3 Nil).drew).alloc _) fun _ _ h => h) (Bk.new _ _ _) ?_ hlen
          intro e
          have := (World.ownsRow.lt hrl.own _ e).2
          omega
        clear hwf3
        have HB := Lib.hid (Ht3.out.blk.fr (((Fr.refl w3 Nil).drew).alloc (Obj.cells #[Value.int IntKind.i64 k, Value.slice a2 xs.length c2] 102)) fun h => h)
        rw [Hlv.out] at HB
        have HNE : Hid (∀ j, (Value.slice al t.rows.length cl).ownBlock = some j → j ≠ t.tb) := by
          rw [← Hlv.out]
          intro j hj e
          have := (List.nodup_cons.1 (tBlocks_nodup Hn.out Hti.out)).1
          exact this (by simp [rlBlocks, ← e, hj])
        have z1 := fun o => ((Fr.refl w3 Nil).alloc o).cell q1 (fun h => h)
        have z2 := fun o => ((Fr.refl w3 Nil).alloc o).cell x0 (fun h => h)
        have z3 := fun o => ((Fr.refl w3 Nil).alloc o).cell x1 (fun h => h)
        go_region_with (first | (go_at_call 51; refine HI.out.mono ?_; rintro e w5 ⟨b, cap, rfl, ho, hf5, hb5⟩; have y0 := HB.out.fr hf5 (fun h => HNE.out _ h rfl); have y1 := y0.cell 1; have y2 := y0.free 1))
        all_goals
          have HP : Hid (Upd R w (R.mod.set i.toNat (t.mod.put k xs)) (w5.setCell ⟨t.tb, 1, none⟩ (.slice (some ⟨b, 0, none⟩) (t.rows.length + 1) cap))) := by
            refine put_ins H.out Hn.out Hti.out Hg.out.sorted' Hx.out Hcl.out ((Hf23.out.drew).alloc (Obj.cells #[Value.int IntKind.i64 k, Value.slice a2 xs.length c2] 102)) ho ?_ ?_
            · rw [Hlv.out]; exact hf5
            · rw [Hlv.out]; exact hb5
          clear y0 y1 y2 ho hf5 hb5 z1 z2 z3
          go_wp2_with fail
          go_ret
          rw [HS2.out]
          exact ⟨rfl, HP.out⟩
    · have h1' : ((xs.length : Int) == (t.n : Int)) = false := by rw [beq_eq_false_iff_ne]; intro e; apply h1; show xs.length = t.n; omega
      have h1'' : ((xs.length : Int) != (t.n : Int)) = true := by rw [bne_iff_ne]; intro e; apply h1; show xs.length = t.n; omega
      have HS2 : Hid (mput R.mod i k xs = (R.mod, 2)) := by
        have := HS.out
        rw [if_pos (.inr h1)] at this
        exact this
      clear HS h0 h1
      go_wp2_with fail
      go_ret
      rw [HS2.out]
      exact ⟨rfl, Upd.same H.out Hn.out Hf.out⟩
end Go.Proofs.Ytjpenaodkfljhaa
