/-
 Walk of Put.
 No condition but sizes.
 Walks of Delete, New.
 No condition but sizes.
 Plain laws of the tables as the document has them: what is well formed stays so.
 The methods of the tables, as whoever uses them sees them: the tables M, in the blocks S.
 Plain laws of the sum of a column.
 Plain laws: what is got behind a change.
-/
import Derived.Test.YtgpekgnhbccnoaaGreatPkY9
import Derived.Deep.RegionWith
namespace Go.Proofs.YtgpekgnhbccnoaaGreat
open Go Go.RowKit
attribute [local go_sem ↓] Go.wp_at_zero Go.wp_at_succ

def MTab.put (T : MTab) (k : Int) (cols : List Int) : MTab := (T.1, T.2.filter (fun r => r.1 < k) ++ (k, cols) :: T.2.filter (fun r => k < r.1))
def mput (M : List MTab) (i k : Int) (cols : List Int) : List MTab × Int :=
 if (mtab M i).1 = 0 ∨ cols.length ≠ (mtab M i).1 then (M, 2) else (M.set i.toNat ((mtab M i).put k cols), 0)

theorem put_parts {A B : List (Int × List Int)} {k : Int} (hA : ∀ r ∈ A, r.1 < k) (hB : ∀ r ∈ B, k ≤ r.1) : (A ++ B).filter (fun r => r.1 < k) = A ∧ (A ++ B).filter (fun r => k < r.1) = B.filter (fun r => k < r.1) := by
 constructor
 ·rw [List.filter_append, List.filter_eq_self.2 (fun r hr => by simpa using hA r hr), List.filter_eq_nil_iff.2 (fun r hr => by simpa using hB r hr), List.append_nil]
 ·rw [List.filter_append, List.filter_eq_nil_iff.2 (fun r hr => by have := hA r hr; simp; omega), List.nil_append]
theorem lb_parts {g : List GRow} (hs : Sorted g) (k : Int) : (∀ r ∈ g.take (lbK g k), r.key < k) ∧ (∀ r ∈ g.drop (lbK g k), k ≤ r.key) := by
 have h := sorted_of_lt hs (k := k)
 constructor
 ·intro r hr
  obtain ⟨j, hj⟩ := List.getElem?_of_mem hr
  rw [List.getElem?_take] at hj
  split at hj
  ·exact h.1 j r (by assumption) hj
  ·cases hj
 ·intro r hr
  obtain ⟨j, hj⟩ := List.getElem?_of_mem hr
  rw [List.getElem?_drop] at hj
  exact h.2 _ r (by omega) hj
theorem filter_gt {g : List GRow} {k : Int} (h : ∀ r ∈ g, k < r.key) : (rowsOf g).filter (fun r => k < r.1) = rowsOf g := by
 rw [List.filter_eq_self]
 intro r hr
 simp only [rowsOf, List.mem_map] at hr
 obtain ⟨x, hx, rfl⟩ := hr
 simpa using h x hx
/-- The row is there: it is replaced. -/
theorem put_mod_found {t : GTab} (hs : Sorted t.rows) {k : Int} {r : GRow} (hr : t.rows[lbK t.rows k]? = some r) (hk : r.key = k) (cv : Value) (xs : List Int) :
  GTab.mod { t with rows := t.rows.take (lbK t.rows k) ++ ⟨k, cv, xs⟩ :: t.rows.drop (lbK t.rows k + 1) } = t.mod.put k xs := by
 obtain ⟨h1, h2⟩ := lb_parts hs k
 obtain ⟨hsp, _⟩ := split_at hr
 have hgt : ∀ x ∈ t.rows.drop (lbK t.rows k + 1), k < x.key := by
  intro x hx
  obtain ⟨j, hj⟩ := List.getElem?_of_mem hx
  rw [List.getElem?_drop] at hj
  have := hs.lt hr hj (by omega)
  omega
 generalize lbK t.rows k = n at *
 have e : (GTab.mod t).2 = rowsOf (t.rows.take n) ++ ((k, r.cols) :: rowsOf (t.rows.drop (n + 1))) := by
  show rowsOf t.rows = _
  conv => lhs; rw [hsp]
  simp [rowsOf, hk]
 unfold MTab.put
 rw [e]
 have hp := put_parts (A := rowsOf (t.rows.take n)) (B := (k, r.cols) :: rowsOf (t.rows.drop (n + 1))) (k := k)
  (by intro x hx; simp only [rowsOf, List.mem_map] at hx; obtain ⟨y, hy, rfl⟩ := hx; exact h1 y hy)
  (by
   intro x hx
   simp only [List.mem_cons, rowsOf, List.mem_map] at hx
   rcases hx with rfl | ⟨y, hy, rfl⟩
   ·exact Int.le_refl _
   ·exact Int.le_of_lt (hgt y hy))
 rw [hp.1, hp.2]
 have : ((k, r.cols) :: rowsOf (t.rows.drop (n + 1))).filter (fun r => decide (k < r.1)) = rowsOf (t.rows.drop (n + 1)) := by
  rw [List.filter_cons_of_neg (by simp)]
  exact filter_gt hgt
 rw [this]
 simp [GTab.mod, rowsOf]
/-- It is not: it is put in between. -/
theorem put_mod_ins {t : GTab} (hs : Sorted t.rows) {k : Int} (hn : ¬ ∃ r ∈ t.rows, r.key = k) (cv : Value) (xs : List Int) :
  GTab.mod { t with rows := t.rows.take (lbK t.rows k) ++ ⟨k, cv, xs⟩ :: t.rows.drop (lbK t.rows k) } = t.mod.put k xs := by
 obtain ⟨h1, h2⟩ := lb_parts hs k
 have hgt : ∀ x ∈ t.rows.drop (lbK t.rows k), k < x.key := by
  intro x hx
  have := h2 x hx
  have hne : x.key ≠ k := fun e => hn ⟨x, List.mem_of_mem_drop hx, e⟩
  omega
 generalize lbK t.rows k = n at *
 have e : (GTab.mod t).2 = rowsOf (t.rows.take n) ++ rowsOf (t.rows.drop n) := by
  show rowsOf t.rows = _
  rw [rowsOf, rowsOf, rowsOf, ← List.map_append, List.take_append_drop]
 unfold MTab.put
 rw [e]
 have hp := put_parts (A := rowsOf (t.rows.take n)) (B := rowsOf (t.rows.drop n)) (k := k)
  (by intro x hx; simp only [rowsOf, List.mem_map] at hx; obtain ⟨y, hy, rfl⟩ := hx; exact h1 y hy)
  (by intro x hx; simp only [rowsOf, List.mem_map] at hx; obtain ⟨y, hy, rfl⟩ := hx; exact h2 y hy)
 rw [hp.1, hp.2, filter_gt hgt]
 simp [GTab.mod, rowsOf]

def RetUpdE (R : GRows) (w : World) (x : List MTab × Int) (e : Ending) (w' : World) : Prop :=
 e = .returned (.int .i64 x.2) ∧ Upd R w x.1 w'

/-- A table has got other rows: all that is asked of the new ones. -/
theorem upd_rows {R : GRows} {w w' : World} {S : Nat → Prop} (h : RowsAt w R) (hn : (gBlocks R).Nodup) {i : Nat} {t : GTab} (ht : R.tabs[i]? = some t) {lv : Value} {g : List GRow}
  (hf : Fr w w' S) (hS : ∀ k, S k → k ∈ tBlocks t) (hblk : Bk w' t.tb 137 [.int .i64 t.n, lv]) (hrl : RL w' lv g) (hn' : (rlBlocks lv g).Nodup) (hb : ∀ k ∈ rlBlocks lv g, k ∈ rlBlocks t.lv t.rows ∨ w.heap.size ≤ k) :
  Upd R w (R.mod.set i (t.n, rowsOf g)) w' := by
 have htn := tBlocks_nodup hn ht
 have hta := h.tabs t (List.mem_of_getElem? ht)
 have key := h.upd hn ht (t' := ⟨t.tb, t.n, lv, g⟩) rfl hf hS ⟨hblk, hrl⟩
  (by
   refine List.nodup_cons.2 ⟨fun hm => ?_, hn'⟩
   rcases hb _ hm with h1 | h1
   ·exact (List.nodup_cons.1 htn).1 h1
   ·have h2 : w.heap.size ≤ t.tb := h1
    have := hta.blk.lt; omega)
  (fun k hk => by
   simp only [tBlocks, List.mem_cons] at hk ⊢
   rcases hk with rfl | hk
   ·exact .inl (.inl rfl)
   ·exact (hb k hk).imp (fun h => .inr h) id)
 refine ⟨R.upd i ⟨t.tb, t.n, lv, g⟩, rfl, key.1, key.2.1, key.2.2.1, hf.mono fun k _ hk => key.2.2.2 k hk, ?_⟩
 rw [GRows.upd_mod]
 rfl

theorem rl_put (g : List GRow) (n : Nat) (lv : Value) (x : GRow) : rlBlocks lv (g.take n ++ x :: g.drop (n + 1)) = (lv.ownBlock.toList ++ (g.take n).flatMap fun r => r.cv.ownBlock.toList) ++ x.cv.ownBlock.toList ++ (g.drop (n + 1)).flatMap fun r => r.cv.ownBlock.toList := by
 simp [rlBlocks]
theorem rl_split {g : List GRow} {n : Nat} {r : GRow} (hr : g[n]? = some r) (lv : Value) : rlBlocks lv g = (lv.ownBlock.toList ++ (g.take n).flatMap fun r => r.cv.ownBlock.toList) ++ r.cv.ownBlock.toList ++ (g.drop (n + 1)).flatMap fun r => r.cv.ownBlock.toList := by
 conv => lhs; rw [(split_at hr).1]
 simp [rlBlocks]

/-- A row is put in another's place. -/
theorem put_here {R : GRows} {w w3 : World} (h : RowsAt w R) (hn : (gBlocks R).Nodup) {i : Nat} {t : GTab} (ht : R.tabs[i]? = some t) (hs : Sorted t.rows) {k : Int} {r : GRow} (hr : t.rows[lbK t.rows k]? = some r) (hk : r.key = k)
  {b cap : Nat} (hlv : t.lv = .slice (some ⟨b, 0, none⟩) t.rows.length cap) {cv : Value} {xs : List Int} (hc : Cloned xs w cv w3) :
  Upd R w (R.mod.set i (t.mod.put k xs)) ((w3.setCell ⟨b, lbK t.rows k * 2, none⟩ (.int .i64 k)).setCell ⟨b, lbK t.rows k * 2 + 1, none⟩ cv) := by
 have htn := tBlocks_nodup hn ht
 have hrn := (List.nodup_cons.1 htn).2
 have hta := h.tabs t (List.mem_of_getElem? ht)
 have hta3 : TabAt w3 t := hta.fr hc.2.2 fun _ _ h => h
 have hmod := put_mod_found hs hr hk cv xs
 generalize lbK t.rows k = n at *
 have hi := (List.getElem?_eq_some_iff.1 hr).1
 have hob : t.lv.ownBlock = some b := by rw [hlv]; rfl
 have hbt : b ∈ tBlocks t := by simp [tBlocks, rlBlocks, hob]
 have hf3 : Fr w3 ((w3.setCell ⟨b, n * 2, none⟩ (.int .i64 k)).setCell ⟨b, n * 2 + 1, none⟩ cv) (fun j => j = b) := (Fr.store _ _ _ _).transS (Fr.store _ _ _ _)
 have hf : Fr w ((w3.setCell ⟨b, n * 2, none⟩ (.int .i64 k)).setCell ⟨b, n * 2 + 1, none⟩ cv) (fun j => j = b) := hc.2.2.of_nil.transS hf3
 have hne : t.tb ≠ b := fun e => (List.nodup_cons.1 htn).1 (by rw [e]; simp [rlBlocks, hob])
 have hcvn : ∀ j, cv.ownBlock = some j → w.heap.size ≤ j := hc.2.1
 have hsp := rl_split hr t.lv
 have hbm : ∀ j ∈ rlBlocks t.lv t.rows, j < w.heap.size := hta.rl.lt
 rw [hsp] at hrn
 have hmid := (nodup_mid hrn)
 have hAB : b ∉ (t.rows.take n).flatMap (fun r => r.cv.ownBlock.toList) ∧ b ∉ (t.rows.drop (n + 1)).flatMap (fun r => r.cv.ownBlock.toList) := by
  have h1 : (([] : List Nat) ++ [b] ++ ((t.rows.take n).flatMap (fun r => r.cv.ownBlock.toList) ++ (r.cv.ownBlock.toList ++ (t.rows.drop (n + 1)).flatMap fun r => r.cv.ownBlock.toList))).Nodup := by
   simpa [hob, List.append_assoc] using hrn
  have h2 := ((nodup_mid h1).1 b (by simp)).2
  simp only [List.mem_append, not_or] at h2
  exact ⟨h2.1, h2.2.2⟩
 have key := upd_rows (g := t.rows.take n ++ ⟨k, cv, xs⟩ :: t.rows.drop (n + 1)) (lv := t.lv) h hn ht hf (fun j hj => by rw [hj]; exact hbt)
  (hta.blk.fr hf fun e => hne e) ?_ ?_ ?_
 ·rw [← hmod]
  exact key
 ·refine ⟨?_, ?_⟩
  ·have ho := hta3.rl.own
   rw [hlv] at ho ⊢
   have h1 := (ho.stored (n * 2) (.int .i64 k)).1
   have h2 := (h1.stored (n * 2 + 1) cv).1
   have hl : (t.rows.take n ++ GRow.mk k cv xs :: t.rows.drop (n + 1)).length = t.rows.length := by simp; omega
   have hfl : flatR (t.rows.take n ++ GRow.mk k cv xs :: t.rows.drop (n + 1)) = ((flatR t.rows).set (n * 2) (.int .i64 k)).set (n * 2 + 1) cv := by
    apply List.ext_getElem?
    intro j
    obtain ⟨q, rfl | rfl⟩ : ∃ q, j = q * 2 ∨ j = q * 2 + 1 := ⟨j / 2, by omega⟩
    ·rw [flatR_key, List.getElem?_set_ne (by omega)]
     by_cases hq : q = n
     ·subst hq
      rw [List.getElem?_set_self (by rw [length_flatR]; omega), List.getElem?_append_right (by simp; omega)]
      simp [Nat.min_eq_left (Nat.le_of_lt hi)]
     ·rw [List.getElem?_set_ne (by omega), flatR_key]
      congr 1
      by_cases hq2 : q < n
      ·rw [List.getElem?_append_left (by simp; omega), List.getElem?_take, if_pos hq2]
      ·rw [List.getElem?_append_right (by simp; omega)]
       have : q - (t.rows.take n).length = (q - (n + 1)) + 1 := by simp; omega
       rw [this, List.getElem?_cons_succ, List.getElem?_drop]
       congr 1; omega
    ·rw [flatR_cv]
     by_cases hq : q = n
     ·subst hq
      rw [List.getElem?_set_self (by simp [length_flatR]; omega), List.getElem?_append_right (by simp; omega)]
      simp [Nat.min_eq_left (Nat.le_of_lt hi)]
     ·rw [List.getElem?_set_ne (by omega), List.getElem?_set_ne (by omega), flatR_cv]
      congr 1
      by_cases hq2 : q < n
      ·rw [List.getElem?_append_left (by simp; omega), List.getElem?_take, if_pos hq2]
      ·rw [List.getElem?_append_right (by simp; omega)]
       have : q - (t.rows.take n).length = (q - (n + 1)) + 1 := by simp; omega
       rw [this, List.getElem?_cons_succ, List.getElem?_drop]
       congr 1; omega
   rw [hl, hfl]
   exact h2
  ·intro x hx
   simp only [List.mem_append, List.mem_cons] at hx
   rcases hx with hx | rfl | hx
   ·refine (hta3.rl.cols x (List.mem_of_mem_take hx)).fr hf3 fun j hj e => hAB.1 ?_
    simp only [List.mem_flatMap]
    exact ⟨x, hx, by simp [hj, e]⟩
   ·refine hc.1.fr hf3 fun j hj e => ?_
    have h1 := hcvn j hj
    have h2 := hbm b (by simp [rlBlocks, hob])
    have e' : j = b := e
    omega
   ·refine (hta3.rl.cols x (List.mem_of_mem_drop hx)).fr hf3 fun j hj e => hAB.2 ?_
    simp only [List.mem_flatMap]
    exact ⟨x, hx, by simp [hj, e]⟩
 ·rw [rl_put]
  refine nodup_replace (N := w.heap.size) hrn (by cases cv.ownBlock <;> simp) (fun j hj => .inr (hcvn j (by simpa using hj))) ?_ ?_
  ·intro j hj; exact hbm j (by rw [hsp]; simp only [List.mem_append] at hj ⊢; exact .inl (.inl hj))
  ·intro j hj; exact hbm j (by rw [hsp]; simp only [List.mem_append]; exact .inr hj)
 ·intro j hj
  rw [rl_put] at hj
  rw [hsp]
  simp only [List.mem_append] at hj ⊢
  rcases hj with (hj | hj) | hj
  ·exact .inl (.inl (.inl hj))
  ·exact .inr (hcvn j (by simpa using hj))
  ·exact .inl (.inr hj)

theorem rl_ins (g : List GRow) (n : Nat) (lv : Value) (x : GRow) : rlBlocks lv (g.take n ++ x :: g.drop n) = lv.ownBlock.toList ++ ((g.take n).flatMap (fun r => r.cv.ownBlock.toList) ++ x.cv.ownBlock.toList ++ (g.drop n).flatMap fun r => r.cv.ownBlock.toList) := by
 simp [rlBlocks]
theorem flat_take_drop (g : List GRow) (n : Nat) : g.flatMap (fun r => r.cv.ownBlock.toList) = (g.take n).flatMap (fun r => r.cv.ownBlock.toList) ++ (g.drop n).flatMap fun r => r.cv.ownBlock.toList := by
 rw [← List.flatMap_append, List.take_append_drop]

/-- A row is put in between: w1: its values are cloned; w3: the slice is the new one; w': it is in the table. -/
theorem put_ins {R : GRows} {w w1 w2 w3 : World} (h : RowsAt w R) (hn : (gBlocks R).Nodup) {i : Nat} {t : GTab} (ht : R.tabs[i]? = some t) (hs : Sorted t.rows) {k : Int} (hnk : ¬ ∃ r ∈ t.rows, r.key = k)
  {cv : Value} {xs : List Int} (hc : Cloned xs w cv w1) (hf12 : Fr w1 w2 Nil) {b cap : Nat} (ho : w3.ownsRow 0 128 2 (.slice (some ⟨b, 0, none⟩) (t.rows.length + 1) cap) (t.rows.length + 1) (flatR (t.rows.take (lbK t.rows k)) ++ [.int .i64 k, cv] ++ flatR (t.rows.drop (lbK t.rows k))))
  (hf23 : Fr w2 w3 (fun j => t.lv.ownBlock = some j)) (hb : t.lv.ownBlock = some b ∨ w2.heap.size ≤ b) :
  Upd R w (R.mod.set i (t.mod.put k xs)) (w3.setCell ⟨t.tb, 1, none⟩ (.slice (some ⟨b, 0, none⟩) (t.rows.length + 1) cap)) := by
 have htn := tBlocks_nodup hn ht
 have hrn := (List.nodup_cons.1 htn).2
 have htbn := (List.nodup_cons.1 htn).1
 have hta := h.tabs t (List.mem_of_getElem? ht)
 have hmod := put_mod_ins hs hnk cv xs
 have hle := lbK_le t.rows k
 generalize lbK t.rows k = n at *
 have hs1 := hc.2.2.size
 have hs2 := hf12.size
 have hs3 := hf23.size
 have hf02 : Fr w w2 Nil := hc.2.2.trans0 hf12
 have hf03 : Fr w w3 (fun j => t.lv.ownBlock = some j) := hf02.of_nil.transS hf23
 let w' := w3.setCell ⟨t.tb, 1, none⟩ (.slice (some ⟨b, 0, none⟩) (t.rows.length + 1) cap)
 have hf3 : Fr w3 w' (fun j => j = t.tb) := Fr.store _ _ _ _
 have hcvn : ∀ j, cv.ownBlock = some j → w.heap.size ≤ j := hc.2.1
 have hcvl : ∀ j, cv.ownBlock = some j → j < w1.heap.size := hc.1.lt
 have hbm : ∀ j ∈ rlBlocks t.lv t.rows, j < w.heap.size := hta.rl.lt
 have hlvm : ∀ j, t.lv.ownBlock = some j → j ∈ rlBlocks t.lv t.rows := fun j hj => by simp [rlBlocks, hj]
 have htl := hta.blk.lt
 have hbt : b ≠ t.tb := by
  intro e
  rcases hb with h1 | h1
  ·exact htbn (e ▸ hlvm b h1)
  ·omega
 have hbc : cv.ownBlock ≠ some b := by
  intro e
  have h1 := hcvn b e
  have h2 := hcvl b e
  rcases hb with h3 | h3
  ·have := hbm b (hlvm b h3); omega
  ·omega
 have hnn : (t.lv.ownBlock.toList ++ t.rows.flatMap fun r => r.cv.ownBlock.toList).Nodup := hrn
 have hnp := List.nodup_append.1 hnn
 have hbr : b ∉ t.rows.flatMap (fun r => r.cv.ownBlock.toList) := by
  intro hm
  rcases hb with h1 | h1
  ·exact hnp.2.2 b (by simp [h1]) b hm rfl
  ·have := hbm b (by simp only [rlBlocks, List.mem_append]; exact .inr hm); omega
 have hlvc : ∀ j, t.lv.ownBlock = some j → j ∉ t.rows.flatMap (fun r => r.cv.ownBlock.toList) := fun j hj hm => hnp.2.2 j (by simp [hj]) j hm rfl
 have key := upd_rows (g := t.rows.take n ++ ⟨k, cv, xs⟩ :: t.rows.drop n) (lv := .slice (some ⟨b, 0, none⟩) (t.rows.length + 1) cap) (w' := w') (S := fun j => t.lv.ownBlock = some j ∨ j = t.tb) h hn ht
  ((hf03.mono fun _ _ h => .inl h).transS (hf3.mono fun _ _ h => .inr h)) (fun j hj => by
   rcases hj with hj | rfl
   ·exact List.mem_cons_of_mem _ (hlvm j hj)
   ·exact List.mem_cons_self) ?_ ?_ ?_ ?_
 ·rw [← hmod]
  exact key
 ·have h3 : Bk w3 t.tb 137 [.int .i64 t.n, t.lv] := hta.blk.fr hf03 fun e => htbn (hlvm _ e)
  exact h3.set 1 _
 ·refine ⟨?_, ?_⟩
  ·have hl : (t.rows.take n ++ GRow.mk k cv xs :: t.rows.drop n).length = t.rows.length + 1 := by simp; omega
   have hfl : flatR (t.rows.take n ++ GRow.mk k cv xs :: t.rows.drop n) = flatR (t.rows.take n) ++ [.int .i64 k, cv] ++ flatR (t.rows.drop n) := by simp [flatR]
   rw [hl, hfl]
   exact hf3.own ho fun j hj e => hbt (by cases hj; exact e)
  ·intro x hx
   have hfo : ∀ y ∈ t.rows, OwnInts w' 2 y.cv y.cols := by
    intro y hy
    refine ((hta.rl.cols y hy).fr hf03 fun j hj e => ?_).fr hf3 fun j hj e => ?_
    ·exact hlvc j e (by simp only [List.mem_flatMap]; exact ⟨y, hy, by simp [hj]⟩)
    ·refine htbn ?_
     have e' : j = t.tb := e
     rw [← e']
     simp only [rlBlocks, List.mem_append, List.mem_flatMap]
     exact .inr ⟨y, hy, by simp [hj]⟩
   simp only [List.mem_append, List.mem_cons] at hx
   rcases hx with hx | rfl | hx
   ·exact hfo x (List.mem_of_mem_take hx)
   ·refine (((hc.1.fr hf12 fun _ _ h => h).fr hf23 fun j hj e => ?_)).fr hf3 fun j hj e => ?_
    ·have h1 := hcvn j hj
     have := hbm j (hlvm j e); omega
    ·have h1 := hcvn j hj
     have e' : j = t.tb := e
     omega
   ·exact hfo x (List.mem_of_mem_drop hx)
 ·rw [rl_ins]
  show ([b] ++ _).Nodup
  rw [flat_take_drop t.rows n] at hbr hnp
  rw [List.nodup_append]
  refine ⟨by simp, ?_, ?_⟩
  ·have h1 : ((t.rows.take n).flatMap (fun r : GRow => r.cv.ownBlock.toList) ++ [] ++ (t.rows.drop n).flatMap fun r : GRow => r.cv.ownBlock.toList).Nodup := by simpa using hnp.2.1
   refine nodup_replace (N := w.heap.size) h1 (by cases cv.ownBlock <;> simp) (fun j hj => .inr (hcvn j (by simpa using hj))) ?_ ?_
   ·intro j hj; exact hbm j (by simp only [rlBlocks, flat_take_drop t.rows n, List.mem_append]; exact .inr (.inl hj))
   ·intro j hj; exact hbm j (by simp only [rlBlocks, flat_take_drop t.rows n, List.mem_append]; exact .inr (.inr hj))
  ·intro j hj j' hj' e
   subst e
   simp only [List.mem_singleton] at hj
   subst hj
   simp only [List.mem_append] at hj' hbr
   rcases hj' with (hj' | hj') | hj'
   ·exact hbr (.inl hj')
   ·exact hbc (by simpa using hj')
   ·exact hbr (.inr hj')
 ·intro j hj
  rw [rl_ins] at hj
  simp only [List.mem_append] at hj
  rcases hj with hj | (hj | hj) | hj
  ·simp [Value.ownBlock] at hj
   subst hj
   rcases hb with h1 | h1
   ·exact .inl (hlvm _ h1)
   ·right; omega
  ·left; simp only [rlBlocks, flat_take_drop t.rows n, List.mem_append]; exact .inr (.inl hj)
  ·exact .inr (hcvn j (by simpa using hj))
  ·left; simp only [rlBlocks, flat_take_drop t.rows n, List.mem_append]; exact .inr (.inr hj)

set_option maxRecDepth 100000 in
set_option maxHeartbeats 400000 in
theorem put_any (R : GRows) (i k : Int) (v : Value) (xs : List Int) (w : World) (h : RowsAt w R) (hn : (gBlocks R).Nodup) (hg : Good R.mod) (hv : IntsAt w v xs) (hvl : xs.length ≤ 1000000) :
  Calls Tryz.prog 36 #[R.val, .int .i64 i, .int .i64 k, v] w (RetUpdE R w (mput R.mod i k xs)) := by
 obtain ⟨av, capv, rfl⟩ := hv.shape
 have H := Lib.hid h
 have Hn := Lib.hid hn
 have Hv := Lib.hid hv
 have hl : R.tabs.length ≤ 1000000 := by have := hg.few; simp [GRows.mod] at this; omega
 have Hg := Lib.hid (hg.at i)
 have HS : Hid (mput R.mod i k xs = mput R.mod i k xs) := rfl
 conv at HS => arg 1; rhs; unfold mput
 clear h hg hn hv
 go_enter Tryz.func36, Tryz.ntmps36
 go_wp2_with fail
 refine (table_any R i _ H.out hl).mono ?_
 rintro e w1 ⟨t, rfl, ht, hf, hm, hin⟩
 rw [← hm] at Hg HS
 have Hin := Lib.hid hin
 clear hm hin
 have Ht := Lib.hid ht
 have Hf := Lib.hid hf
 have q0 := ht.blk.cell 0
 clear ht hf
 by_cases h0 : t.mod.1 = 0
 ·have h0' : ((t.n : Int) == 0) = true := by rw [beq_iff_eq]; show ((t.mod.1 : Nat) : Int) = 0; omega
  have HS2 : Hid (mput R.mod i k xs = (R.mod, 2)) := by
   have := HS.out
   rw [if_pos (.inl h0)] at this
   exact this
  clear HS h0
  go_wp2_with fail
  go_ret
  rw [HS2.out]
  exact ⟨rfl, Upd.same H.out Hn.out Hf.out⟩
 ·have h0' : ((t.n : Int) == 0) = false := by rw [beq_eq_false_iff_ne]; intro e; apply h0; show t.n = 0; omega
  by_cases h1 : xs.length = t.mod.1
  ·have h1' : ((xs.length : Int) == (t.n : Int)) = true := by rw [beq_iff_eq]; show (xs.length : Int) = ((t.mod.1 : Nat) : Int); omega
   have h1'' : ((xs.length : Int) != (t.n : Int)) = false := by rw [bne_eq_false_iff_eq]; show (xs.length : Int) = ((t.mod.1 : Nat) : Int); omega
   have HS2 : Hid (mput R.mod i k xs = (R.mod.set i.toNat (t.mod.put k xs), 0)) := by
    have := HS.out
    rw [if_neg (by rw [not_or]; exact ⟨h0, fun h => h h1⟩)] at this
    exact this
   obtain ⟨hi0, hti⟩ : 0 ≤ i ∧ R.tabs[i.toNat]? = some t := by
    rcases Hin.out with h | ⟨_, h⟩
    ·exact h
    ·rw [h] at h0; exact absurd rfl h0
   have Hti := Lib.hid hti
   clear HS h0 h1 Hin hti hi0
   go_wp2_with fail
   refine (rowclone_any k _ xs _ (Hv.out.fr Hf.out fun _ _ h => h) hvl).mono ?_
   rintro e w2 ⟨a2, c2, rfl, hcl⟩
   have Hcl := Lib.hid (hcl.after Hf.out)
   have Ht2 : Hid (TabAt w2 t) := Ht.out.fr hcl.2.2 fun _ _ h => h
   clear hcl q0
   go_wp2_with fail
   refine (find_any t k _ (Ht2.out.fr ((Fr.refl w2 Nil).alloc _) fun _ _ h => h) Hg.out.sorted' Hg.out.few').mono ?_
   rintro e w3 ⟨rfl, hf3⟩
   have hb3 := (Bk.new w2 128 #[Value.int IntKind.i64 k, Value.slice a2 xs.length c2]).fr hf3 fun h => h
   have hf23 := ((Fr.refl w2 Nil).alloc (Obj.cells #[Value.int IntKind.i64 k, Value.slice a2 xs.length c2] 128)).trans0 hf3
   have Hf23 := Lib.hid hf23
   have Ht3 : Hid (TabAt w3 t) := Ht2.out.fr hf23 fun _ _ h => h
   have x0 := hb3.cell 0
   have x1 := hb3.cell 1
   have q1 := Ht3.out.blk.cell 1
   clear hb3 hf3 hf23
   have hlen := Hg.out.few'
   obtain ⟨al, cl, hlv⟩ := Ht3.out.rl.shape2
   rw [hlv] at q1
   by_cases hx : ∃ r ∈ t.rows, r.key = k
   ·obtain ⟨r, hr, hk⟩ := row_found Hg.out.sorted' hx
    have hlt := (List.getElem?_eq_some_iff.1 hr).1
    rcases Ht3.out.rl.shape with ⟨_, h2⟩ | ⟨b, cap, hlv2, _⟩
    ·rw [h2] at hlt; simp at hlt
    rw [hlv] at hlv2
    simp only [Value.slice.injEq, true_and] at hlv2
    obtain ⟨rfl, rfl⟩ := hlv2
    have hrl := Ht3.out.rl
    rw [hlv] at hrl
    have p0 := hrl.key _ r hr
    have p1 := hrl.cv _ r hr
    have p2 := World.ownsRow.frozenAt hrl.own (lbK t.rows k * 2)
    have p3 := World.ownsRow.frozenAt hrl.own (lbK t.rows k * 2 + 1)
    have hcl3 : Cloned xs w (.slice a2 xs.length c2) w3 := ⟨(Hcl.out.1.fr Hf23.out fun _ _ h => h), Hcl.out.2.1, Hcl.out.2.2.trans0 Hf23.out⟩
    have HU := Lib.hid (put_here H.out Hn.out Hti.out Hg.out.sorted' hr hk hlv hcl3)
    rw [decide_eq_true hx]
    generalize lbK t.rows k = n at *
    have hlt2 : (n : Int) < (t.rows.length : Int) := by omega
    have hlt3 : (0 : Int) ≤ (n : Int) := by omega
    clear hrl hlv hr hk hx hcl3
    go_wp2_with fail
    go_still_tail 7, (by kernel_rfl)
    change wpList _ _ _ _ _ w3.drew
    go_wp2_with fail
    go_ret
    rw [HS2.out]
    exact ⟨rfl, HU.out.drew⟩
   ·rw [decide_eq_false hx]
    have Hx := Lib.hid hx
    have HL := Lib.hid (lbK_le t.rows k)
    have Hlv := Lib.hid hlv
    clear hx hlv
    go_wp2_with fail
    have hwf3 : TabAt w3 t := Ht3.out
    have HI : Hid (Calls Tryz.prog 77 #[.slice al t.rows.length cl, .int .i64 (lbK t.rows k), .slice (some ⟨w3.heap.size, 0, none⟩) 1 1] (w3.drew.alloc (Obj.cells #[Value.int IntKind.i64 k, Value.slice a2 xs.length c2] 128))
      (InsRet (.slice al t.rows.length cl) t.rows (lbK t.rows k) [.int .i64 k, .slice a2 xs.length c2] (w3.drew.alloc (Obj.cells #[Value.int IntKind.i64 k, Value.slice a2 xs.length c2] 128)))) := by
     have hrl := Ht3.out.rl
     rw [Hlv.out] at hrl
     refine insert_any _ t.rows _ HL.out k a2 xs.length c2 w3.heap.size _ (hrl.fr (((Fr.refl w3 Nil).drew).alloc _) fun _ _ h => h) (Bk.new _ _ _) ?_ hlen
     intro e
     have := (World.ownsRow.lt hrl.own _ e).2
     omega
    clear hwf3
    have HB := Lib.hid (Ht3.out.blk.fr (((Fr.refl w3 Nil).drew).alloc (Obj.cells #[Value.int IntKind.i64 k, Value.slice a2 xs.length c2] 128)) fun h => h)
    rw [Hlv.out] at HB
    have HNE : Hid (∀ j, (Value.slice al t.rows.length cl).ownBlock = some j → j ≠ t.tb) := by
     rw [← Hlv.out]
     intro j hj e
     have := (List.nodup_cons.1 (tBlocks_nodup Hn.out Hti.out)).1
     exact this (by simp [rlBlocks, ← e, hj])
    have z1 := fun o => ((Fr.refl w3 Nil).alloc o).cell q1 (fun h => h)
    have z2 := fun o => ((Fr.refl w3 Nil).alloc o).cell x0 (fun h => h)
    have z3 := fun o => ((Fr.refl w3 Nil).alloc o).cell x1 (fun h => h)
    go_region_with (first | (go_at_call 77; refine HI.out.mono ?_; rintro e w5 ⟨b, cap, rfl, ho, hf5, hb5⟩; have y0 := HB.out.fr hf5 (fun h => HNE.out _ h rfl); have y1 := y0.cell 1; have y2 := y0.free 1))
    all_goals
     have HP : Hid (Upd R w (R.mod.set i.toNat (t.mod.put k xs)) (w5.setCell ⟨t.tb, 1, none⟩ (.slice (some ⟨b, 0, none⟩) (t.rows.length + 1) cap))) := by
      refine put_ins H.out Hn.out Hti.out Hg.out.sorted' Hx.out Hcl.out ((Hf23.out.drew).alloc (Obj.cells #[Value.int IntKind.i64 k, Value.slice a2 xs.length c2] 128)) ho ?_ ?_
      ·rw [Hlv.out]; exact hf5
      ·rw [Hlv.out]; exact hb5
     clear y0 y1 y2 ho hf5 hb5 z1 z2 z3
     go_wp2_with fail
     go_ret
     rw [HS2.out]
     exact ⟨rfl, HP.out⟩
  ·have h1' : ((xs.length : Int) == (t.n : Int)) = false := by rw [beq_eq_false_iff_ne]; intro e; apply h1; show xs.length = t.n; omega
   have h1'' : ((xs.length : Int) != (t.n : Int)) = true := by rw [bne_iff_ne]; intro e; apply h1; show xs.length = t.n; omega
   have HS2 : Hid (mput R.mod i k xs = (R.mod, 2)) := by
    have := HS.out
    rw [if_pos (.inr h1)] at this
    exact this
   clear HS h0 h1
   go_wp2_with fail
   go_ret
   rw [HS2.out]
   exact ⟨rfl, Upd.same H.out Hn.out Hf.out⟩
end Go.Proofs.YtgpekgnhbccnoaaGreat
namespace Go.Proofs.YtgpekgnhbccnoaaGreat
open Go Go.RowKit

def MTab.del (T : MTab) (k : Int) : MTab := (T.1, T.2.filter (fun r => r.1 ≠ k))
def mdel (M : List MTab) (i k : Int) : List MTab × Bool × Int :=
 if (mtab M i).1 = 0 then (M, false, 2) else if (mget (mtab M i) k).isSome then (M.set i.toNat ((mtab M i).del k), true, 0) else (M, false, 0)

theorem del_mod {t : GTab} (hs : Sorted t.rows) {k : Int} {n : Nat} {r : GRow} (hr : t.rows[n]? = some r) (hk : r.key = k) : (t.n, rowsOf (t.rows.eraseIdx n)) = t.mod.del k := by
 obtain ⟨hsp, _⟩ := split_at hr
 have hl : ∀ x ∈ t.rows.take n, x.key ≠ k := by
  intro x hx e
  obtain ⟨j, hj⟩ := List.getElem?_of_mem hx
  rw [List.getElem?_take] at hj
  split at hj
  ·have := hs.lt hj hr (by assumption); omega
  ·cases hj
 have hd : ∀ x ∈ t.rows.drop (n + 1), x.key ≠ k := by
  intro x hx e
  obtain ⟨j, hj⟩ := List.getElem?_of_mem hx
  rw [List.getElem?_drop] at hj
  have := hs.lt hr hj (by omega); omega
 have hne : ∀ g : List GRow, (∀ x ∈ g, x.key ≠ k) → (rowsOf g).filter (fun r => r.1 ≠ k) = rowsOf g := by
  intro g hg
  rw [List.filter_eq_self]
  intro x hx
  simp only [rowsOf, List.mem_map] at hx
  obtain ⟨y, hy, rfl⟩ := hx
  simpa using hg y hy
 have e : (GTab.mod t).2 = rowsOf (t.rows.take n) ++ ((k, r.cols) :: rowsOf (t.rows.drop (n + 1))) := by
  show rowsOf t.rows = _
  conv => lhs; rw [hsp]
  simp [rowsOf, hk]
 unfold MTab.del
 rw [e, List.filter_append, hne _ hl, List.filter_cons_of_neg (by simp), hne _ hd, List.eraseIdx_eq_take_drop_succ]
 simp [rowsOf, GTab.mod]

theorem sub_flatMap {α β : Type} {l l' : List α} (h : l.Sublist l') (f : α → List β) : (l.flatMap f).Sublist (l'.flatMap f) := by
 induction h with
 | slnil => exact List.Sublist.refl _
 | cons a _ ih => rw [List.flatMap_cons]; exact ih.trans (List.sublist_append_right _ _)
 | cons_cons a _ ih => rw [List.flatMap_cons, List.flatMap_cons]; exact List.Sublist.append (List.Sublist.refl _) ih
/-- A row is taken away: w2: the slice is shorter; w': it is in the table. -/
theorem del_here {R : GRows} {w w1 w2 : World} (h : RowsAt w R) (hn : (gBlocks R).Nodup) {i : Nat} {t : GTab} (ht : R.tabs[i]? = some t) (hs : Sorted t.rows) {k : Int} {n : Nat} {r : GRow} (hr : t.rows[n]? = some r) (hk : r.key = k)
  {b cap : Nat} (hlv : t.lv = .slice (some ⟨b, 0, none⟩) t.rows.length cap) (hf1 : Fr w w1 Nil) (ho : w2.ownsRow 0 128 2 (.slice (some ⟨b, 0, none⟩) (t.rows.length - 1) cap) (t.rows.length - 1) (flatR (t.rows.eraseIdx n)))
  (hf2 : Fr w1 w2 (fun j => j = b)) :
  Upd R w (R.mod.set i (t.mod.del k)) (w2.setCell ⟨t.tb, 1, none⟩ (.slice (some ⟨b, 0, none⟩) (t.rows.length - 1) cap)) := by
 have htn := tBlocks_nodup hn ht
 have hrn := (List.nodup_cons.1 htn).2
 have htbn := (List.nodup_cons.1 htn).1
 have hta := h.tabs t (List.mem_of_getElem? ht)
 have hi := (List.getElem?_eq_some_iff.1 hr).1
 have hob : t.lv.ownBlock = some b := by rw [hlv]; rfl
 have hbt : b ∈ rlBlocks t.lv t.rows := by simp [rlBlocks, hob]
 have hne : t.tb ≠ b := fun e => htbn (e ▸ hbt)
 have hf02 : Fr w w2 (fun j => j = b) := hf1.of_nil.transS hf2
 have hf3 := Fr.store w2 t.tb 1 (.slice (some ⟨b, 0, none⟩) (t.rows.length - 1) cap)
 have hrl' : rlBlocks t.lv t.rows = [b] ++ t.rows.flatMap fun r => r.cv.ownBlock.toList := by simp [rlBlocks, hob]
 have hbr : b ∉ t.rows.flatMap (fun r => r.cv.ownBlock.toList) := by
  rw [hrl', List.nodup_append] at hrn
  intro hm
  exact hrn.2.2 b (by simp) b hm rfl
 have hsub : (t.rows.eraseIdx n).Sublist t.rows := List.eraseIdx_sublist _ _
 rw [← del_mod hs hr hk]
 have hS : ∀ j, (j = b ∨ j = t.tb) → j ∈ tBlocks t := by
  rintro j (rfl | rfl)
  ·exact List.mem_cons_of_mem _ hbt
  ·exact List.mem_cons_self
 refine upd_rows (S := fun j => j = b ∨ j = t.tb) (lv := .slice (some ⟨b, 0, none⟩) (t.rows.length - 1) cap) (g := t.rows.eraseIdx n) h hn ht ((hf02.mono fun _ _ h => .inl h).transS (hf3.mono fun _ _ h => .inr h)) hS ?_ ?_ ?_ ?_
 ·exact (hta.blk.fr hf02 fun e => hne e).set 1 _
 ·refine ⟨?_, fun x hx => ?_⟩
  ·rw [List.length_eraseIdx_of_lt hi]
   exact hf3.own ho fun j hj e => hne (by cases hj; exact e.symm)
  ·have hx' := hsub.subset hx
   refine ((hta.rl.cols x hx').fr hf02 fun j hj e => ?_).fr hf3 fun j hj e => ?_
   ·have e' : j = b := e
    exact hbr (by simp only [List.mem_flatMap]; exact ⟨x, hx', by simp [hj, e']⟩)
   ·have e' : j = t.tb := e
    refine htbn ?_
    rw [← e', hrl']
    simp only [List.mem_append, List.mem_flatMap]
    exact .inr ⟨x, hx', by simp [hj]⟩
 ·rw [hrl'] at hrn
  show ([b] ++ _).Nodup
  exact hrn.sublist (List.Sublist.append (List.Sublist.refl _) (sub_flatMap hsub _))
 ·intro j hj
  left
  rw [hrl']
  have : rlBlocks (.slice (some ⟨b, 0, none⟩) (t.rows.length - 1) cap) (t.rows.eraseIdx n) = [b] ++ (t.rows.eraseIdx n).flatMap fun r => r.cv.ownBlock.toList := rfl
  rw [this] at hj
  exact (List.Sublist.append (List.Sublist.refl _) (sub_flatMap hsub _)).subset hj

set_option maxRecDepth 100000 in
set_option maxHeartbeats 400000 in
theorem del_any (R : GRows) (i k : Int) (w : World) (h : RowsAt w R) (hn : (gBlocks R).Nodup) (hg : Good R.mod) :
  Calls Tryz.prog 96 #[R.val, .int .i64 i, .int .i64 k] w (RetUpd R w (mdel R.mod i k)) := by
 have H := Lib.hid h
 have Hn := Lib.hid hn
 have hl : R.tabs.length ≤ 1000000 := by have := hg.few; simp [GRows.mod] at this; omega
 have Hg := Lib.hid (hg.at i)
 have HS : Hid (mdel R.mod i k = mdel R.mod i k) := rfl
 conv at HS => arg 1; rhs; unfold mdel
 clear h hg hn
 go_enter Tryz.func96, Tryz.ntmps96
 go_wp2_with fail
 refine (table_any R i _ H.out hl).mono ?_
 rintro e w1 ⟨t, rfl, ht, hf, hm, hin⟩
 rw [← hm] at Hg HS
 have Hin := Lib.hid hin
 clear hm hin
 have Ht := Lib.hid ht
 have Hf := Lib.hid hf
 have q0 := ht.blk.cell 0
 clear ht hf
 by_cases h0 : t.mod.1 = 0
 ·have h0' : ((t.n : Int) == 0) = true := by rw [beq_iff_eq]; show ((t.mod.1 : Nat) : Int) = 0; omega
  have HS2 : Hid (mdel R.mod i k = (R.mod, false, 2)) := by
   have := HS.out
   rw [if_pos h0] at this
   exact this
  clear HS h0
  go_wp2_with fail
  go_ret2
  rw [HS2.out]
  exact ⟨rfl, Upd.same H.out Hn.out Hf.out⟩
 ·have h0' : ((t.n : Int) == 0) = false := by rw [beq_eq_false_iff_ne]; intro e; apply h0; show t.n = 0; omega
  have HS1 : Hid (mdel R.mod i k = if (mget t.mod k).isSome then (R.mod.set i.toNat (t.mod.del k), true, 0) else (R.mod, false, 0)) := by
   have := HS.out
   rw [if_neg h0] at this
   exact this
  obtain ⟨hi0, hti⟩ : 0 ≤ i ∧ R.tabs[i.toNat]? = some t := by
   rcases Hin.out with h | ⟨_, h⟩
   ·exact h
   ·rw [h] at h0; exact absurd rfl h0
  have Hti := Lib.hid hti
  clear HS h0 Hin hti hi0
  go_wp2_with fail
  refine (find_any t k _ Ht.out Hg.out.sorted' Hg.out.few').mono ?_
  rintro e w2 ⟨rfl, hf2⟩
  have Hf2 := Lib.hid (Hf.out.trans0 hf2)
  have Ht2 : Hid (TabAt w2 t) := Ht.out.fr hf2 fun _ _ h => h
  clear hf2 q0
  by_cases hx : ∃ r ∈ t.rows, r.key = k
  ·obtain ⟨r, hr, hk⟩ := row_found Hg.out.sorted' hx
   have hlt := (List.getElem?_eq_some_iff.1 hr).1
   rcases Ht2.out.rl.shape with ⟨_, h2⟩ | ⟨b, cap, hlv, hcap⟩
   ·rw [h2] at hlt; simp at hlt
   have hrl := Ht2.out.rl
   rw [hlv] at hrl
   have q1 := Ht2.out.blk.cell 1
   rw [hlv] at q1
   have hlen := Hg.out.few'
   have HM := Lib.hid (mget_found Hg.out.sorted' hr hk)
   have HD : Hid (Calls Tryz.prog 121 #[.slice (some ⟨b, 0, none⟩) t.rows.length cap, .int .i64 (lbK t.rows k), .int .i64 ((lbK t.rows k : Nat) + 1)] w2 _) := delete_any b cap t.rows (lbK t.rows k) w2 hrl hlt hcap hlen
   have HR2 : Hid (RowsAt w2 R) := H.out.fr Hf2.out fun _ _ h => h
   have Hr := Lib.hid hr
   have Hk := Lib.hid hk
   have Hlv := Lib.hid hlv
   have HB := Lib.hid Ht2.out.blk
   have hne : b ≠ t.tb := by
    intro e
    have := (List.nodup_cons.1 (tBlocks_nodup Hn.out Hti.out)).1
    exact this (by simp [rlBlocks, hlv, Value.ownBlock, e])
   rw [decide_eq_true hx]
   generalize lbK t.rows k = n at *
   clear hrl hlv hr hk hx hcap
   go_wp2_with fail
   refine HD.out.mono ?_
   rintro e w3 ⟨rfl, ho, hf3⟩
   have y0 := HB.out.fr hf3 (fun e => hne e.symm)
   have y1 := y0.cell 1
   have y2 := y0.free 1
   have HP := Lib.hid (del_here H.out Hn.out Hti.out Hg.out.sorted' Hr.out Hk.out Hlv.out Hf2.out ho hf3)
   clear ho hf3 y0
   go_wp2_with fail
   go_ret2
   rw [HS1.out, HM.out]
   exact ⟨rfl, HP.out⟩
  ·have HM : Hid (mget t.mod k = none) := mget_none (by
    simp only [GTab.mod, List.mem_map]
    rintro ⟨_, ⟨r, hr, rfl⟩, hk⟩
    exact hx ⟨r, hr, hk⟩)
   rw [decide_eq_false hx]
   clear hx
   go_wp2_with fail
   go_ret2
   rw [HS1.out, HM.out]
   exact ⟨rfl, Upd.same H.out Hn.out Hf2.out⟩

def colsOk (cols : List Int) : Prop := cols.length ≤ 64 ∧ ∀ n ∈ cols, 1 ≤ n ∧ n ≤ 16
instance (cols : List Int) : Decidable (colsOk cols) := by unfold colsOk; infer_instance
def newMod (cols : List Int) : List MTab := cols.map fun n => (n.toNat, [])
/-- Tables of the call's own. -/
structure Fresh (B : Nat) (w : World) (R : GRows) : Prop where
 rows : RowsAt w R
 nodup : (gBlocks R).Nodup
 new : ∀ k ∈ gBlocks R, B ≤ k
/-- A table is appended: w: before; w2: the table is there; w3: appended to the slice; then the slice is stored. -/
theorem Fresh.add {B : Nat} {w w2 w3 : World} {R : GRows} {t : GTab} {b cap : Nat} (h : Fresh B w R) (hB : B ≤ w.heap.size) (hf : Fr w w2 Nil) (ht : TabAt w2 t) (htn : (tBlocks t).Nodup) (htb : ∀ k ∈ tBlocks t, w.heap.size ≤ k)
  (ho : w3.ownsRow 0 134 1 (.slice (some ⟨b, 0, none⟩) (R.tabs.length + 1) cap) (R.tabs.length + 1) (ptrs R.tabs ++ [.pointer (some ⟨t.tb, 0, none⟩)]))
  (hg : w2.grownBy w3 R.tv.ownBlock) (hb : R.tv.ownBlock = some b ∨ w2.heap.size ≤ b) :
  Fresh B (w3.setCell ⟨R.rb, 0, none⟩ (.slice (some ⟨b, 0, none⟩) (R.tabs.length + 1) cap)) ⟨R.rb, .slice (some ⟨b, 0, none⟩) (R.tabs.length + 1) cap, R.tabs ++ [t]⟩ := by
 have hs := hf.size
 have hf3 : Fr w2 w3 (fun j => R.tv.ownBlock = some j) := (Fr.refl w2 _).grown hg fun j hj _ => hj
 have hlt := h.rows.lt
 have hn := h.nodup
 have hrbn := (List.nodup_cons.1 hn).1
 have hn2 := (List.nodup_cons.1 hn).2
 have hn3 := List.nodup_append.1 hn2
 have htl := ht.lt
 have hrb : R.rb < w.heap.size := hlt _ (by simp [gBlocks])
 have hvm : ∀ j, R.tv.ownBlock = some j → j ∈ gBlocks R := fun j hj => by simp [gBlocks, hj]
 have hbn : b ≠ R.rb := by
  intro e
  rcases hb with h1 | h1
  ·exact hrbn (by simp [← e, h1])
  ·omega
 have hbt : b ∉ R.tabs.flatMap tBlocks := by
  intro hm
  rcases hb with h1 | h1
  ·exact hn3.2.2 b (by simp [h1]) b hm rfl
  ·have := hlt b (by simp only [gBlocks, List.mem_cons, List.mem_append]; exact .inr (.inr hm)); omega
 have hbtn : b ∉ tBlocks t := by
  intro hm
  have h1 := htb b hm
  have h2 := htl b hm
  rcases hb with h3 | h3
  ·have := hlt b (hvm b h3); omega
  ·omega
 have hst := Fr.store w3 R.rb 0 (.slice (some ⟨b, 0, none⟩) (R.tabs.length + 1) cap)
 refine ⟨⟨?_, ?_, ?_⟩, ?_, ?_⟩
 ·have h1 : Bk w3 R.rb 133 [R.tv] := (h.rows.root.fr hf fun h => h).fr hf3 fun e => hrbn (by simp [e])
  exact h1.set 0 _
 ·have h1 : ptrs (R.tabs ++ [t]) = ptrs R.tabs ++ [.pointer (some ⟨t.tb, 0, none⟩)] := by simp [ptrs]
  show World.ownsRow _ 0 _ 1 _ (R.tabs ++ [t]).length (ptrs (R.tabs ++ [t]))
  rw [h1]
  simp only [List.length_append, List.length_cons, List.length_nil, Nat.zero_add]
  exact hst.own ho fun j hj e => hbn (by cases hj; exact e)
 ·intro t2 ht2
  rw [List.mem_append] at ht2
  rcases ht2 with ht2 | ht2
  ·refine (((h.rows.tabs t2 ht2).fr hf fun _ _ h => h).fr hf3 fun j hj e => ?_).fr hst fun j hj e => ?_
   ·exact hn3.2.2 j (by simp [e]) j (by simp only [List.mem_flatMap]; exact ⟨t2, ht2, hj⟩) rfl
   ·have e' : j = R.rb := e
    exact hrbn (by rw [← e']; simp only [List.mem_append, List.mem_flatMap]; exact .inr ⟨t2, ht2, hj⟩)
  ·simp only [List.mem_singleton] at ht2
   subst ht2
   refine (ht.fr hf3 fun j hj e => ?_).fr hst fun j hj e => ?_
   ·have h1 := htb j hj
    have := hlt j (hvm j e); omega
   ·have e' : j = R.rb := e
    have h1 := htb j hj
    omega
 ·have e : gBlocks ⟨R.rb, .slice (some ⟨b, 0, none⟩) (R.tabs.length + 1) cap, R.tabs ++ [t]⟩ = R.rb :: b :: (R.tabs.flatMap tBlocks ++ tBlocks t) := by simp [gBlocks, Value.ownBlock]
  rw [e]
  refine List.nodup_cons.2 ⟨?_, List.nodup_cons.2 ⟨?_, List.nodup_append.2 ⟨hn3.2.1, htn, ?_⟩⟩⟩
  ·simp only [List.mem_cons, List.mem_append, not_or]
   refine ⟨fun e => hbn e.symm, fun hm => hrbn (by simp only [List.mem_append]; exact .inr hm), fun hm => ?_⟩
   have := htb _ hm; omega
  ·simp only [List.mem_append, not_or]
   exact ⟨hbt, hbtn⟩
  ·intro x hx y hy e
   subst e
   have h1 := htb x hy
   have := hlt x (by simp only [gBlocks, List.mem_cons, List.mem_append]; exact .inr (.inr hx)); omega
 ·intro j hj
  have e : gBlocks ⟨R.rb, .slice (some ⟨b, 0, none⟩) (R.tabs.length + 1) cap, R.tabs ++ [t]⟩ = R.rb :: b :: (R.tabs.flatMap tBlocks ++ tBlocks t) := by simp [gBlocks, Value.ownBlock]
  rw [e] at hj
  simp only [List.mem_cons, List.mem_append] at hj
  rcases hj with rfl | rfl | hj | hj
  ·exact h.new _ (by simp [gBlocks])
  ·rcases hb with h1 | h1
   ·exact h.new _ (hvm _ h1)
   ·omega
  ·exact h.new _ (by simp only [gBlocks, List.mem_cons, List.mem_append]; exact .inr (.inr hj))
  ·have := htb j hj; omega
def NewRet (cols : List Int) (w : World) (e : Ending) (w' : World) : Prop :=
 (colsOk cols ∧ ∃ R, e = .returned (.tuple #[R.val, .int .i64 0]) ∧ Fresh w.heap.size w' R ∧ R.mod = newMod cols ∧ Fr w w' Nil) ∨
 (¬ colsOk cols ∧ e = .returned (.tuple #[.pointer none, .int .i64 2]) ∧ Fr w w' Nil)
theorem Tryz.infoP : (Tryz.prog.info? 134).map (fun i => (i.zero, i.size, i.bytes)) = some (some (.pointer none), 1, 8) := by kernel_rfl

set_option maxRecDepth 100000 in
set_option maxHeartbeats 400000 in
theorem new_any (v : Value) (cols : List Int) (w : World) (hv : IntsAt w v cols) (hl : cols.length ≤ 9223372036854775807) :
  Calls Tryz.prog 32 #[v] w (NewRet cols w) := by
 obtain ⟨i0, hinf, hz0, hz1, hz2⟩ := info_parts Tryz.infoP
 obtain ⟨av, capv, rfl⟩ := hv.shape
 have Hv := Lib.hid hv
 clear hv
 by_cases h64 : cols.length ≤ 64
 ·have h9 : decide ((64 : Int) < (cols.length : Int)) = false := by rw [decide_eq_false_iff_not]; omega
  go_enter Tryz.func32, Tryz.ntmps32
  go_wp2_with fail
  go_loopw [6, 14] (fun _ vi wr => ∃ (k : Nat) (R : GRows), R.rb = w.heap.size ∧ k ≤ cols.length ∧ vi = .int .i64 k ∧ Fresh w.heap.size wr R ∧ R.mod = newMod (cols.take k) ∧ R.tabs.length = k ∧ Fr w wr Nil ∧ ∀ n ∈ cols.take k, 1 ≤ n ∧ n ≤ 16)
   (fun _ vi _ => cols.length - (intOf vi).toNat)
  case atStart =>
   refine ⟨0, ⟨w.heap.size, .slice none 0 0, []⟩, rfl, by omega, rfl, ⟨⟨Bk.new _ _ _, World.ownsRow_nil _ _ _ _, fun t ht => by cases ht⟩, by simp [gBlocks, Value.ownBlock], fun k hk => by simp [gBlocks, Value.ownBlock] at hk; omega⟩, rfl, rfl, (Fr.refl _ _).alloc _, by simp⟩
  case round =>
   obtain ⟨k, R, hrb, hk, rfl, hfr, hmod, hlen, hf, hall⟩ := hrel
   have Hrb := Lib.hid hrb
   have Hfr := Lib.hid hfr
   have Hmod := Lib.hid hmod
   have Hlen := Lib.hid hlen
   have Hf := Lib.hid hf
   have Hall := Lib.hid hall
   clear hrb hfr hmod hlen hf hall
   by_cases hlt : k < cols.length
   ·obtain ⟨b, off, cap2, hvf, hc⟩ := Hv.out.form (by omega)
    simp only [Value.slice.injEq, true_and] at hvf
    obtain ⟨rfl, rfl⟩ := hvf
    have hn := List.getElem?_eq_getElem hlt
    generalize cols[k] = n at hn
    have p0 := Hf.out.cell (hc k n hn) fun h => h
    have Hn := Lib.hid hn
    have hlt2 : (k : Int) < (cols.length : Int) := by omega
    clear hc hn
    by_cases hr : 1 ≤ n ∧ n ≤ 16
    ·obtain ⟨hr1, hr2⟩ := hr
     obtain ⟨at_, capt, htv⟩ := Hfr.out.rows.shape2
     have q0 := Hfr.out.rows.root.cell 0
     have q1 := Hfr.out.rows.root.free 0
     rw [htv] at q0
     rw [Hrb.out] at q0 q1
     have Htv := Lib.hid htv
     clear htv
     have y := (Bk.fr Hfr.out.rows.root (((Fr.refl wr Nil).alloc (Obj.cells #[Value.int .i64 n, .slice none 0 0] 137)).alloc (Obj.cells #[.pointer (some ⟨wr.heap.size, 0, none⟩)] 134)) fun h => h)
     rw [Hrb.out] at y
     have Hy := Lib.hid y
     have HO : Hid (World.ownsRow ((wr.alloc (Obj.cells #[Value.int .i64 n, .slice none 0 0] 137)).alloc (Obj.cells #[.pointer (some ⟨wr.heap.size, 0, none⟩)] 134)) 0 134 1 (.slice at_ R.tabs.length capt) R.tabs.length (ptrs R.tabs)) := by
      have := ((((Fr.refl wr Nil).alloc (Obj.cells #[Value.int .i64 n, .slice none 0 0] 137)).alloc (Obj.cells #[.pointer (some ⟨wr.heap.size, 0, none⟩)] 134))).own Hfr.out.rows.own fun _ _ h => h
      rw [Htv.out] at this
      exact this
     have HNE : Hid (∀ j, (Value.slice at_ R.tabs.length capt).ownBlock = some j → j ≠ w.heap.size) := by
      rw [← Htv.out, ← Hrb.out]
      intro j hj e
      exact (List.nodup_cons.1 Hfr.out.nodup).1 (by simp [← e, hj])
     clear y
     go_wp2_with (at_builtin; refine wpList_append_lies _ rfl _ _ _ rfl 0 134 i0 _ 1 8 Tryz.underlying131 hinf hz0 hz1 hz2 rfl (by omega) _ R.tabs.length (ptrs R.tabs) rfl HO.out ⟨wr.heap.size + 1, 0, none⟩ 1 1 [.pointer (some ⟨wr.heap.size, 0, none⟩)] rfl rfl ?c2 ?c3 (by omega) ?c4 ?c5 (Nat.zero_le _) (wr.heap.size + 2) (by simp) ?_)
     case c2 =>
      have := World.news_of_block (heap_alloc_new (wr.alloc (Obj.cells #[Value.int .i64 n, .slice none 0 0] 137)) (Obj.cells #[.pointer (some ⟨wr.heap.size, 0, none⟩)] 134))
      simpa using this
     case c3 => intro u hu; simp at hu; rcases hu with rfl; rfl
     case c4 => have := Hlen.out; unfold maxLen; omega
     case c5 => have := Hlen.out; omega
     intro b2 cap2 w3 ho hgr hat _
     have Ho := Lib.hid ho
     have Hgr := Lib.hid hgr
     have Hat := Lib.hid hat
     have y0 := Hy.out.fr ((Fr.refl _ (fun j => (Value.slice at_ R.tabs.length capt).ownBlock = some j)).grown hgr fun j hj _ => hj) (fun h => HNE.out _ h rfl)
     have y1 := y0.cell 0
     have y2 := y0.free 0
     clear ho hgr hat y0 q0 q1
     go_wp2_with fail
     have hfr2 := ((Fr.refl wr Nil).alloc (Obj.cells #[Value.int .i64 n, .slice none 0 0] 137)).alloc (Obj.cells #[.pointer (some ⟨wr.heap.size, 0, none⟩)] 134)
     have hnn : ((n.toNat : Nat) : Int) = n := by omega
     have hta : TabAt ((wr.alloc (Obj.cells #[Value.int .i64 n, .slice none 0 0] 137)).alloc (Obj.cells #[.pointer (some ⟨wr.heap.size, 0, none⟩)] 134)) ⟨wr.heap.size, n.toNat, .slice none 0 0, []⟩ := by
      refine TabAt.fr (w := wr.alloc (Obj.cells #[Value.int .i64 n, .slice none 0 0] 137)) ⟨?_, World.ownsRow_nil _ _ _ _, fun r hr => by cases hr⟩ ((Fr.refl _ Nil).alloc _) fun _ _ h => h
      show Bk _ _ _ [.int .i64 ((n.toNat : Nat) : Int), _]
      rw [hnn]
      exact Bk.new _ _ _
     refine ⟨⟨k + 1, ⟨R.rb, .slice (some ⟨b2, 0, none⟩) (R.tabs.length + 1) cap2, R.tabs ++ [⟨wr.heap.size, n.toNat, .slice none 0 0, []⟩]⟩, Hrb.out, by omega, by go_num, ?_, ?_, ?_, ?_, ?_⟩, by simp [intOf]; omega⟩
     ·have := Fresh.add Hfr.out Hf.out.size hfr2 hta (by simp [tBlocks, rlBlocks, Value.ownBlock]) (fun j hj => by simp [tBlocks, rlBlocks, Value.ownBlock] at hj; omega) Ho.out (by rw [Htv.out]; exact Hgr.out)
       (by
        rw [Htv.out]
        refine Hat.out.imp id fun e => ?_
        simp; omega)
      rw [Hrb.out] at this ⊢
      exact this
     ·show List.map GTab.mod (R.tabs ++ [_]) = _
      have hm : List.map GTab.mod R.tabs = newMod (cols.take k) := Hmod.out
      rw [List.map_append, hm, List.take_add_one, Hn.out]
      simp [newMod, GTab.mod]
     ·simp [Hlen.out]
     ·refine (((Hf.out.trans0 hfr2).grown Hgr.out fun j hj hlt => ?_)).setCell (fun hlt => ?_) _
      ·have := Hfr.out.new j (by simp [gBlocks, Htv.out, hj])
       omega
      ·have h2 : w.heap.size < w.heap.size := hlt
       omega
     ·intro m hm
      rw [List.take_add_one, Hn.out] at hm
      simp only [Option.toList_some, List.mem_append, List.mem_singleton] at hm
      rcases hm with hm | rfl
      ·exact Hall.out m hm
      ·exact ⟨hr1, hr2⟩
    ·have hbad : Hid (¬ colsOk cols) := fun h => hr (h.2 n (List.mem_of_getElem? Hn.out))
     by_cases hr1 : n < 1
     ·clear hr
      go_wp2_with fail
      go_ret2
      exact .inr ⟨hbad.out, rfl, Hf.out⟩
     ·have hr2 : 16 < n := by omega
      have hr3 : 1 ≤ n := by omega
      clear hr hr1
      go_wp2_with fail
      go_ret2
      exact .inr ⟨hbad.out, rfl, Hf.out⟩
   ·go_wp2_with fail
    go_ret2
    obtain rfl : k = cols.length := by omega
    refine .inl ⟨⟨h64, fun n hn => Hall.out n (by rw [List.take_of_length_le (Nat.le_refl _)]; exact hn)⟩, R, by simp [GRows.val, Hrb.out], Hfr.out, ?_, Hf.out⟩
    rw [Hmod.out, List.take_of_length_le (Nat.le_refl _)]
 ·go_enter Tryz.func32, Tryz.ntmps32
  go_wp2_with fail
  go_ret2
  exact .inr ⟨fun h => h64 h.1, rfl, Fr.refl _ _⟩
end Go.Proofs.YtgpekgnhbccnoaaGreat
namespace Go.Proofs.YtgpekgnhbccnoaaGreat
open Go Go.RowKit

def Few (N : Nat) (M : List MTab) : Prop := ∀ T ∈ M, T.2.length ≤ N

theorem put_len (T : MTab) (k : Int) (cols : List Int) : (T.put k cols).2.length ≤ T.2.length + 1 := by
 show (T.2.filter (fun r => decide (r.1 < k)) ++ (k, cols) :: T.2.filter (fun r => decide (k < r.1))).length ≤ _
 rw [List.length_append, List.length_cons]
 have : ∀ l : List (Int × List Int), (l.filter (fun r => decide (r.1 < k))).length + (l.filter (fun r => decide (k < r.1))).length ≤ l.length := by
  intro l
  induction l with
  | nil => simp
  | cons x l ih =>
   by_cases h1 : x.1 < k
   ·have h2 : ¬ k < x.1 := by omega
    simp only [List.filter_cons, h1, h2, decide_true, decide_false, if_true, List.length_cons]
    simp only [Bool.false_eq_true, if_false]
    omega
   ·by_cases h2 : k < x.1
    ·simp only [List.filter_cons, h1, h2, decide_true, decide_false, if_true, List.length_cons]
     simp only [Bool.false_eq_true, if_false]
     omega
    ·simp only [List.filter_cons, h1, h2, decide_false, List.length_cons]
     simp only [Bool.false_eq_true, if_false]
     omega
 have := this T.2
 omega
theorem GoodT.put {T : MTab} (h : GoodT T) (k : Int) (cols : List Int) (hc : cols.length = T.1) (hN : T.2.length < 1000000) : GoodT (T.put k cols) := by
 refine ⟨?_, ?_, h.le, ?_⟩
 ·show List.Pairwise _ (T.2.filter (fun r => decide (r.1 < k)) ++ (k, cols) :: T.2.filter (fun r => decide (k < r.1)))
  rw [List.pairwise_append, List.pairwise_cons]
  refine ⟨h.sorted.filter _, ⟨fun r hr => by simpa using (List.mem_filter.1 hr).2, h.sorted.filter _⟩, fun a ha b hb => ?_⟩
  have ha' : a.1 < k := by simpa using (List.mem_filter.1 ha).2
  rw [List.mem_cons] at hb
  rcases hb with rfl | hb
  ·exact ha'
  ·have : k < b.1 := by simpa using (List.mem_filter.1 hb).2
   omega
 ·intro r hr
  have hr' : r ∈ T.2.filter (fun r => decide (r.1 < k)) ++ (k, cols) :: T.2.filter (fun r => decide (k < r.1)) := hr
  simp only [List.mem_append, List.mem_cons, List.mem_filter] at hr'
  rcases hr' with hr | rfl | hr
  ·exact h.width r hr.1
  ·exact hc
  ·exact h.width r hr.1
 ·have := put_len T k cols; omega
theorem GoodT.set {T : MTab} (h : GoodT T) (k : Int) (c : Nat) (x : Int) : GoodT (T.set k c x) := by
 have hk : ∀ r : Int × List Int, (if r.1 = k then (r.1, r.2.set c x) else r).1 = r.1 := fun r => by split <;> rfl
 refine ⟨?_, ?_, h.le, ?_⟩
 ·show List.Pairwise _ (T.2.map _)
  rw [List.pairwise_map]
  refine h.sorted.imp fun {a b} hab => ?_
  rw [hk, hk]; exact hab
 ·intro r hr
  have hr' : r ∈ T.2.map (fun r => if r.1 = k then (r.1, r.2.set c x) else r) := hr
  rw [List.mem_map] at hr'
  obtain ⟨y, hy, rfl⟩ := hr'
  have := h.width y hy
  show (if y.1 = k then (y.1, y.2.set c x) else y).2.length = T.1
  split
  ·simp [this]
  ·exact this
 ·show (T.2.map _).length ≤ _
  rw [List.length_map]; exact h.few
theorem GoodT.del {T : MTab} (h : GoodT T) (k : Int) : GoodT (T.del k) := by
 refine ⟨h.sorted.filter _, fun r hr => h.width r (List.mem_filter.1 hr).1, h.le, ?_⟩
 have := List.length_filter_le (fun r : Int × List Int => decide (r.1 ≠ k)) T.2
 have h2 := h.few
 show (T.2.filter (fun r => decide (r.1 ≠ k))).length ≤ _
 omega
theorem mem_set_cases {α : Type} {l : List α} {i : Nat} {x y : α} (h : y ∈ l.set i x) : y ∈ l ∨ y = x := by
 rcases List.mem_or_eq_of_mem_set h with h | h
 ·exact .inl h
 ·exact .inr h
theorem mtab_mem {M : List MTab} {i : Int} (h : (mtab M i).1 ≠ 0) : mtab M i ∈ M := by
 unfold mtab at *
 split at h
 ·rename_i h0
  rw [if_pos h0]
  cases hi : M[i.toNat]? with
  | none => rw [hi] at h; exact absurd rfl h
  | some T => exact List.mem_of_getElem? hi
 ·exact absurd rfl h
theorem Good.upd {M : List MTab} (h : Good M) {i : Nat} {T : MTab} (hT : GoodT T) (h1 : 1 ≤ T.1) : Good (M.set i T) :=
 ⟨fun x hx => by
  rcases mem_set_cases hx with hx | rfl
  ·exact h.tabs x hx
  ·exact ⟨hT, h1⟩, by rw [List.length_set]; exact h.few⟩
theorem good_put {M : List MTab} {N : Nat} (h : Good M) (hf : Few N M) (hN : N < 1000000) (i k : Int) (cols : List Int) : Good (mput M i k cols).1 ∧ Few (N + 1) (mput M i k cols).1 := by
 unfold mput
 split
 ·exact ⟨h, fun T hT => Nat.le_succ_of_le (hf T hT)⟩
 ·rename_i hc
  rw [not_or] at hc
  have hm := mtab_mem hc.1
  have hl := hf _ hm
  refine ⟨h.upd ((h.tabs _ hm).1.put k cols (Decidable.not_not.1 hc.2) (by omega)) (h.tabs _ hm).2, fun T hT => ?_⟩
  rcases mem_set_cases hT with hT | rfl
  ·exact Nat.le_succ_of_le (hf T hT)
  ·have := put_len (mtab M i) k cols; omega
theorem good_set {M : List MTab} {N : Nat} (h : Good M) (hf : Few N M) (i k c x : Int) : Good (mset M i k c x).1 ∧ Few N (mset M i k c x).1 := by
 unfold mset
 split
 ·rename_i hc
  split
  ·have hm : mtab M i ∈ M := mtab_mem (by omega)
   refine ⟨h.upd ((h.tabs _ hm).1.set k _ x) (h.tabs _ hm).2, fun T hT => ?_⟩
   rcases mem_set_cases hT with hT | rfl
   ·exact hf T hT
   ·have := hf _ hm
    simpa [MTab.set] using this
  ·exact ⟨h, hf⟩
 ·exact ⟨h, hf⟩
theorem good_del {M : List MTab} {N : Nat} (h : Good M) (hf : Few N M) (i k : Int) : Good (mdel M i k).1 ∧ Few N (mdel M i k).1 := by
 unfold mdel
 split
 ·exact ⟨h, hf⟩
 ·rename_i hc
  split
  ·have hm : mtab M i ∈ M := mtab_mem hc
   refine ⟨h.upd ((h.tabs _ hm).1.del k) (h.tabs _ hm).2, fun T hT => ?_⟩
   rcases mem_set_cases hT with hT | rfl
   ·exact hf T hT
   ·have h1 := hf _ hm
    have h2 := List.length_filter_le (fun r : Int × List Int => decide (r.1 ≠ k)) (mtab M i).2
    show ((mtab M i).2.filter (fun r => decide (r.1 ≠ k))).length ≤ N
    omega
  ·exact ⟨h, hf⟩
theorem good_new {cols : List Int} (h : colsOk cols) : Good (newMod cols) ∧ Few 0 (newMod cols) := by
 refine ⟨⟨fun T hT => ?_, by simpa [newMod] using h.1⟩, fun T hT => ?_⟩
 ·simp only [newMod, List.mem_map] at hT
  obtain ⟨n, hn, rfl⟩ := hT
  have := h.2 n hn
  refine ⟨⟨List.Pairwise.nil, fun r hr => (by cases hr), ?_, by simp⟩, ?_⟩ <;> show _ ≤ _ <;> simp only <;> omega
 ·simp only [newMod, List.mem_map] at hT
  obtain ⟨n, hn, rfl⟩ := hT
  exact Nat.le_refl _
end Go.Proofs.YtgpekgnhbccnoaaGreat
namespace Go.Proofs.YtgpekgnhbccnoaaGreat
open Go Go.RowKit

/-- At rb lie tables that read as M; all that they are lies in S. -/
def Rws (w : World) (rb : Nat) (M : List MTab) (S : Nat → Prop) : Prop :=
 ∃ R : GRows, R.rb = rb ∧ RowsAt w R ∧ (gBlocks R).Nodup ∧ R.mod = M ∧ ∀ k, S k ↔ k ∈ gBlocks R
theorem Rws.fr {w w' : World} {rb : Nat} {M : List MTab} {S T : Nat → Prop} (h : Rws w rb M S) (hf : Fr w w' T) (hd : ∀ k, S k → ¬ T k) : Rws w' rb M S := by
 obtain ⟨R, h1, h2, h3, h4, h5⟩ := h
 exact ⟨R, h1, h2.fr hf fun k hk => hd k ((h5 k).2 hk), h3, h4, h5⟩
theorem Rws.fr0 {w w' : World} {rb : Nat} {M : List MTab} {S : Nat → Prop} (h : Rws w rb M S) (hf : Fr w w' Nil) : Rws w' rb M S := h.fr hf fun _ _ h => h
theorem Rws.lt {w : World} {rb : Nat} {M : List MTab} {S : Nat → Prop} (h : Rws w rb M S) : ∀ k, S k → k < w.heap.size := by
 obtain ⟨R, h1, h2, h3, h4, h5⟩ := h
 exact fun k hk => h2.lt k ((h5 k).1 hk)
def UpdS (w : World) (rb : Nat) (S : Nat → Prop) (M' : List MTab) (w' : World) : Prop :=
 ∃ S', Rws w' rb M' S' ∧ (∀ k, S' k → S k ∨ w.heap.size ≤ k) ∧ Fr w w' S
theorem Upd.updS {R : GRows} {w w' : World} {rb : Nat} {S : Nat → Prop} {M : List MTab} (h : Upd R w M w') (hrb : R.rb = rb) (hS : ∀ k, S k ↔ k ∈ gBlocks R) : UpdS w rb S M w' := by
 obtain ⟨R', h1, h2, h3, h4, h5, h6⟩ := h
 exact ⟨fun k => k ∈ gBlocks R', ⟨R', h1.trans hrb, h2, h3, h6, fun _ => Iff.rfl⟩, fun k hk => (h4 k hk).imp (hS k).2 id, h5.mono fun k _ hk => (hS k).2 hk⟩
theorem intsAt_bk {w : World} {b cap n : Nat} {e : TypeId} {xs : List Int} (h : Bk w b e (xs.map (Value.int .i64))) (hn : n = xs.length) : IntsAt w (.slice (some ⟨b, 0, none⟩) n cap) xs := by
 subst hn
 refine .inr ⟨_, cap, rfl, fun j u hu => ?_⟩
 rw [Addr.add_lit, Nat.zero_add, h.cell j]
 exact hu
abbrev rptr (rb : Nat) : Value := .pointer (some ⟨rb, 0, none⟩)

def ApiNew (cols : List Int) (w : World) (e : Ending) (w' : World) : Prop :=
 (colsOk cols ∧ ∃ rb S, e = .returned (.tuple #[rptr rb, .int .i64 0]) ∧ Rws w' rb (newMod cols) S ∧ (∀ k, S k → w.heap.size ≤ k) ∧ Fr w w' Nil) ∨
 (¬ colsOk cols ∧ e = .returned (.tuple #[.pointer none, .int .i64 2]) ∧ Fr w w' Nil)
theorem api_new (v : Value) (cols : List Int) (w : World) (hv : IntsAt w v cols) (hl : cols.length ≤ 9223372036854775807) :
  Calls Tryz.prog 32 #[v] w (ApiNew cols w) :=
 (new_any v cols w hv hl).mono fun e w' h => by
  rcases h with ⟨h1, R, rfl, h2, h3, h4⟩ | h
  ·exact .inl ⟨h1, R.rb, fun k => k ∈ gBlocks R, rfl, ⟨R, rfl, h2.rows, h2.nodup, h3, fun _ => Iff.rfl⟩, h2.new, h4⟩
  ·exact .inr h
theorem api_put {w : World} {rb : Nat} {M : List MTab} {S : Nat → Prop} (i k : Int) (v : Value) (xs : List Int) (h : Rws w rb M S) (hg : Good M) (hv : IntsAt w v xs) (hvl : xs.length ≤ 1000000) :
  Calls Tryz.prog 36 #[rptr rb, .int .i64 i, .int .i64 k, v] w fun e w' => e = .returned (.int .i64 (mput M i k xs).2) ∧ UpdS w rb S (mput M i k xs).1 w' := by
 obtain ⟨R, rfl, h2, h3, rfl, h5⟩ := h
 exact (put_any R i k v xs w h2 h3 hg hv hvl).mono fun e w' ⟨he, hu⟩ => ⟨he, hu.updS rfl h5⟩
theorem api_set {w : World} {rb : Nat} {M : List MTab} {S : Nat → Prop} (i k c x : Int) (h : Rws w rb M S) (hg : Good M) :
  Calls Tryz.prog 95 #[rptr rb, .int .i64 i, .int .i64 k, .int .i64 c, .int .i64 x] w fun e w' => e = .returned (.tuple #[.bool (mset M i k c x).2.1, .int .i64 (mset M i k c x).2.2]) ∧ UpdS w rb S (mset M i k c x).1 w' := by
 obtain ⟨R, rfl, h2, h3, rfl, h5⟩ := h
 exact (set_any R i k c x w h2 h3 hg).mono fun e w' ⟨he, hu⟩ => ⟨he, hu.updS rfl h5⟩
theorem api_del {w : World} {rb : Nat} {M : List MTab} {S : Nat → Prop} (i k : Int) (h : Rws w rb M S) (hg : Good M) :
  Calls Tryz.prog 96 #[rptr rb, .int .i64 i, .int .i64 k] w fun e w' => e = .returned (.tuple #[.bool (mdel M i k).2.1, .int .i64 (mdel M i k).2.2]) ∧ UpdS w rb S (mdel M i k).1 w' := by
 obtain ⟨R, rfl, h2, h3, rfl, h5⟩ := h
 exact (del_any R i k w h2 h3 hg).mono fun e w' ⟨he, hu⟩ => ⟨he, hu.updS rfl h5⟩
theorem api_get {w : World} {rb : Nat} {M : List MTab} {S : Nat → Prop} (i k : Int) (h : Rws w rb M S) (hg : Good M) :
  Calls Tryz.prog 94 #[rptr rb, .int .i64 i, .int .i64 k] w (GetRet (mtab M i) k w) := by
 obtain ⟨R, rfl, h2, h3, rfl, h5⟩ := h
 exact get_any R i k w h2 hg
theorem api_sum {w : World} {rb : Nat} {M : List MTab} {S : Nat → Prop} (i c : Int) (h : Rws w rb M S) (hg : Good M) :
  Calls Tryz.prog 37 #[rptr rb, .int .i64 i, .int .i64 c] w (RetInt (msum (mtab M i) c) w) := by
 obtain ⟨R, rfl, h2, h3, rfl, h5⟩ := h
 exact sum_any R i c w h2 hg
theorem api_all {w : World} {rb : Nat} {M : List MTab} {S : Nat → Prop} (i : Int) (h : Rws w rb M S) (hg : Good M) :
  Calls Tryz.prog 64 #[rptr rb, .int .i64 i] w (AllRet (mtab M i).2 w) := by
 obtain ⟨R, rfl, h2, h3, rfl, h5⟩ := h
 exact all_any R i w h2 hg
theorem Good.lenR {R : GRows} (hg : Good R.mod) : R.tabs.length ≤ 1000000 := by have := hg.few; simp [GRows.mod] at this; omega
theorem api_cols {w : World} {rb : Nat} {M : List MTab} {S : Nat → Prop} (i : Int) (h : Rws w rb M S) (hg : Good M) :
  Calls Tryz.prog 91 #[rptr rb, .int .i64 i] w (RetInt (mtab M i).1 w) := by
 obtain ⟨R, rfl, h2, h3, rfl, h5⟩ := h
 exact cols_any R i w h2 hg.lenR
theorem api_tables {w : World} {rb : Nat} {M : List MTab} {S : Nat → Prop} (h : Rws w rb M S) (hg : Good M) :
  Calls Tryz.prog 92 #[rptr rb] w fun e w' => e = .returned (.int .i64 M.length) ∧ w = w' := by
 obtain ⟨R, rfl, h2, h3, rfl, h5⟩ := h
 have := tables_any R w h2 hg.lenR
 simpa [GRows.mod] using this
end Go.Proofs.YtgpekgnhbccnoaaGreat
namespace Go.Proofs.YtgpekgnhbccnoaaGreat
open Go Go.RowKit

theorem mget_mem {T : MTab} {k : Int} {xs : List Int} (h : mget T k = some xs) : (k, xs) ∈ T.2 := by
 unfold mget at h
 rw [Option.map_eq_some_iff] at h
 obtain ⟨r, hr, rfl⟩ := h
 have h1 := List.find?_some hr
 have h2 := List.mem_of_find?_eq_some hr
 simp at h1
 rw [← h1]
 exact h2
def colsOf (M : List MTab) : List Nat := M.map (·.1)
theorem colsOf_set {M : List MTab} {i : Nat} {T : MTab} (h : T.1 = (M[i]?.getD (0, [])).1) : colsOf (M.set i T) = colsOf M := by
 unfold colsOf
 apply List.ext_getElem?
 intro j
 simp only [List.getElem?_map, List.getElem?_set]
 by_cases hj : i = j
 ·subst hj
  simp only [if_true]
  by_cases hl : i < M.length
  ·simp [hl] at h ⊢; exact h
  ·simp [hl]
 ·simp [hj]
theorem mtab_nn {M : List MTab} {i : Int} (h : (mtab M i).1 ≠ 0) : mtab M i = M[i.toNat]?.getD (0, []) := by
 unfold mtab at *
 split
 ·rfl
 ·rename_i hn; rw [if_neg hn] at h; exact absurd rfl h
theorem cols_put (M : List MTab) (i k : Int) (cols : List Int) : colsOf (mput M i k cols).1 = colsOf M := by
 unfold mput
 split
 ·rfl
 ·rename_i h
  rw [not_or] at h
  exact colsOf_set (by rw [← mtab_nn h.1]; rfl)
theorem cols_set (M : List MTab) (i k c x : Int) : colsOf (mset M i k c x).1 = colsOf M := by
 unfold mset
 split
 ·rename_i h
  split
  ·exact colsOf_set (by rw [← mtab_nn (by omega)]; rfl)
  ·rfl
 ·rfl
theorem cols_del (M : List MTab) (i k : Int) : colsOf (mdel M i k).1 = colsOf M := by
 unfold mdel
 split
 ·rfl
 ·rename_i h
  split
  ·exact colsOf_set (by rw [← mtab_nn h]; rfl)
  ·rfl
theorem mtab_set_self {M : List MTab} {i : Int} (h : (mtab M i).1 ≠ 0) (T : MTab) : mtab (M.set i.toNat T) i = T := by
 have hm := h
 unfold mtab at hm ⊢
 split
 ·rename_i h0
  rw [if_pos h0] at hm
  have hl : i.toNat < M.length := by
   rcases Nat.lt_or_ge i.toNat M.length with h | h
   ·exact h
   ·rw [List.getElem?_eq_none h] at hm; exact absurd rfl hm
  simp [hl]
 ·rename_i h0; rw [if_neg h0] at hm; exact absurd rfl hm
end Go.Proofs.YtgpekgnhbccnoaaGreat
namespace Go.Proofs.YtgpekgnhbccnoaaGreat
open Go Go.RowKit

theorem find_filter_key {l : List (Int × List Int)} {p : Int × List Int → Bool} {k : Int} (h : ∀ r, r.1 = k → p r = true) : (l.filter p).find? (fun r => r.1 == k) = l.find? (fun r => r.1 == k) := by
 rw [List.find?_filter]
 congr 1
 funext a
 by_cases ha : a.1 = k
 ·simp [ha, h a ha]
 ·simp [ha]
theorem find_filter_none {l : List (Int × List Int)} {p : Int × List Int → Bool} {k : Int} (h : ∀ r, r.1 = k → p r = false) : (l.filter p).find? (fun r => r.1 == k) = none := by
 rw [List.find?_eq_none]
 intro r hr hk
 have h1 := (List.mem_filter.1 hr).2
 rw [h r (by simpa using hk)] at h1
 cases h1
theorem mget_put_self (T : MTab) (k : Int) (xs : List Int) : mget (T.put k xs) k = some xs := by
 unfold mget MTab.put
 simp only [List.find?_append]
 rw [find_filter_none (fun r hr => by simp [hr])]
 simp
theorem mget_put_other (T : MTab) {k key : Int} (h : k ≠ key) (xs : List Int) : mget (T.put k xs) key = mget T key := by
 unfold mget MTab.put
 simp only [List.find?_append]
 have h1 : ((k, xs) :: T.2.filter (fun r => decide (k < r.1))).find? (fun r => r.1 == key) = (T.2.filter (fun r => decide (k < r.1))).find? (fun r => r.1 == key) := by
  rw [List.find?_cons_of_neg]
  simpa using h
 rw [h1]
 rcases Int.lt_or_gt_of_ne h with hlt | hgt
 ·rw [find_filter_none (p := fun r => decide (r.1 < k)) (fun r hr => by simp; omega), find_filter_key (fun r hr => by simp; omega)]
  rfl
 ·rw [find_filter_key (p := fun r => decide (r.1 < k)) (fun r hr => by simp; omega), find_filter_none (fun r hr => by simp; omega)]
  simp
theorem mget_set_other (T : MTab) {k key : Int} (h : k ≠ key) (c : Nat) (x : Int) : mget (T.set k c x) key = mget T key := by
 unfold mget MTab.set
 simp only [List.find?_map]
 have h1 : ((fun r : Int × List Int => r.1 == key) ∘ fun r : Int × List Int => if r.1 = k then (r.1, r.2.set c x) else r) = fun r => r.1 == key := by
  funext r
  simp only [Function.comp]
  split <;> rfl
 rw [h1]
 cases hr : T.2.find? (fun r => r.1 == key) with
 | none => rfl
 | some r =>
  have h2 := List.find?_some hr
  simp at h2
  simp only [Option.map_some]
  rw [if_neg (by omega)]
theorem mget_del_self (T : MTab) (k : Int) : mget (T.del k) k = none := by
 unfold mget MTab.del
 simp only
 rw [find_filter_none (fun r hr => by simp [hr])]
 rfl
theorem mget_del_other (T : MTab) {k key : Int} (h : k ≠ key) : mget (T.del k) key = mget T key := by
 unfold mget MTab.del
 simp only
 rw [find_filter_key (fun r hr => by simp; omega)]
theorem mtab_set_other {M : List MTab} {i j : Int} (hi : (mtab M i).1 ≠ 0) (h : i ≠ j) (T : MTab) : mtab (M.set i.toNat T) j = mtab M j := by
 have h0 : 0 ≤ i := by
  unfold mtab at hi
  split at hi
  ·assumption
  ·exact absurd rfl hi
 unfold mtab
 split
 ·rw [List.getElem?_set_ne (by omega)]
 ·rfl
/-- What was got stays, whatever is done to other rows. -/
theorem keep_put {M : List MTab} {i k j key : Int} (h : ¬ (i = j ∧ k = key)) (xs : List Int) : mget (mtab (mput M i k xs).1 j) key = mget (mtab M j) key := by
 unfold mput
 split
 ·rfl
 ·rename_i hc
  rw [not_or] at hc
  by_cases hij : i = j
  ·subst hij
   show mget (mtab (M.set i.toNat _) i) key = _
   rw [mtab_set_self hc.1, mget_put_other _ (fun e => h ⟨rfl, e⟩)]
  ·show mget (mtab (M.set i.toNat _) j) key = _
   rw [mtab_set_other hc.1 hij]
theorem keep_del {M : List MTab} {i k j key : Int} (h : ¬ (i = j ∧ k = key)) : mget (mtab (mdel M i k).1 j) key = mget (mtab M j) key := by
 unfold mdel
 split
 ·rfl
 ·rename_i hn
  split
  ·by_cases hij : i = j
   ·subst hij
    show mget (mtab (M.set i.toNat _) i) key = _
    rw [mtab_set_self hn, mget_del_other _ (fun e => h ⟨rfl, e⟩)]
   ·show mget (mtab (M.set i.toNat _) j) key = _
    rw [mtab_set_other hn hij]
  ·rfl
end Go.Proofs.YtgpekgnhbccnoaaGreat
