/-
  The tables whole; walks of Tables, table, has, Cols, find, Len.
  No condition but sizes.
-/
import Derived.Test.YtjpenaodkfljhaaRwMem
namespace Go.Proofs.Ytjpenaodkfljhaa
open Go Go.RowKit
attribute [local go_sem ↓] Go.wp_at_zero Go.wp_at_succ

structure TabAt (w : World) (t : GTab) : Prop where
  blk : Bk w t.tb 98 [.int .i64 t.n, t.lv]
  rl : RL w t.lv t.rows
def tBlocks (t : GTab) : List Nat := t.tb :: rlBlocks t.lv t.rows
theorem TabAt.fr {w w' : World} {S : Nat → Prop} {t : GTab} (h : TabAt w t) (hf : Fr w w' S) (hd : ∀ k ∈ tBlocks t, ¬ S k) : TabAt w' t :=
  ⟨h.blk.fr hf (hd _ (by simp [tBlocks])), h.rl.fr hf fun k hk => hd k (by simp [tBlocks, hk])⟩
theorem TabAt.lt {w : World} {t : GTab} (h : TabAt w t) : ∀ k ∈ tBlocks t, k < w.heap.size := by
  intro k hk
  simp only [tBlocks, List.mem_cons] at hk
  rcases hk with rfl | hk
  · exact h.blk.lt
  · exact h.rl.lt k hk

structure GRows where
  rb : Nat
  tv : Value
  tabs : List GTab
def ptrs (l : List GTab) : List Value := l.map fun t => .pointer (some ⟨t.tb, 0, none⟩)
structure RowsAt (w : World) (R : GRows) : Prop where
  root : Bk w R.rb 94 [R.tv]
  own : w.ownsRow 0 95 1 R.tv R.tabs.length (ptrs R.tabs)
  tabs : ∀ t ∈ R.tabs, TabAt w t
def gBlocks (R : GRows) : List Nat := R.rb :: (R.tv.ownBlock.toList ++ R.tabs.flatMap tBlocks)
theorem RowsAt.fr {w w' : World} {S : Nat → Prop} {R : GRows} (h : RowsAt w R) (hf : Fr w w' S) (hd : ∀ k ∈ gBlocks R, ¬ S k) : RowsAt w' R := by
  refine ⟨h.root.fr hf (hd _ (by simp [gBlocks])), hf.own h.own fun k hk => hd k (by simp [gBlocks, hk]), fun t ht => (h.tabs t ht).fr hf fun k hk => hd k ?_⟩
  simp only [gBlocks, List.mem_cons, List.mem_append, List.mem_flatMap]
  exact .inr (.inr ⟨t, ht, hk⟩)
theorem RowsAt.lt {w : World} {R : GRows} (h : RowsAt w R) : ∀ k ∈ gBlocks R, k < w.heap.size := by
  intro k hk
  simp only [gBlocks, List.mem_cons, List.mem_append, List.mem_flatMap, Option.mem_toList] at hk
  rcases hk with rfl | hk | ⟨t, ht, hk⟩
  · exact h.root.lt
  · exact (World.ownsRow.lt h.own k hk).2
  · exact (h.tabs t ht).lt k hk
theorem RowsAt.shape {w : World} {R : GRows} (h : RowsAt w R) : (R.tv = .slice none 0 0 ∧ R.tabs = []) ∨ ∃ b cap, R.tv = .slice (some ⟨b, 0, none⟩) R.tabs.length cap ∧ R.tabs.length ≤ cap := by
  rcases h.own.2 with ⟨h1, hn⟩ | ⟨b, cap, cur, h1, _, _, hc, _⟩
  · exact .inl ⟨h1, List.eq_nil_of_length_eq_zero hn⟩
  · exact .inr ⟨b, cap, h1, hc⟩
theorem RowsAt.shape2 {w : World} {R : GRows} (h : RowsAt w R) : ∃ a cap, R.tv = .slice a R.tabs.length cap := by
  rcases h.shape with ⟨h1, h2⟩ | ⟨b, cap, h1, _⟩
  · exact ⟨none, 0, by rw [h1, h2]; rfl⟩
  · exact ⟨_, cap, h1⟩
theorem RowsAt.ptr {w : World} {R : GRows} {b cap : Nat} (h : RowsAt w R) (htv : R.tv = .slice (some ⟨b, 0, none⟩) R.tabs.length cap) (i : Nat) (t : GTab) (ht : R.tabs[i]? = some t) :
    w.cell? ⟨b, i, none⟩ = some (.pointer (some ⟨t.tb, 0, none⟩)) := by
  have hi : i < R.tabs.length := (List.getElem?_eq_some_iff.1 ht).1
  have ho := h.own
  rw [htv] at ho
  rw [World.ownsRow.cellAt ho i (by omega)]
  simp [ptrs, ht]

/-- The pointer to the tables. -/
abbrev GRows.val (R : GRows) : Value := .pointer (some ⟨R.rb, 0, none⟩)

set_option maxHeartbeats 400000 in
theorem tables_any (R : GRows) (w : World) (h : RowsAt w R) (_hl : R.tabs.length ≤ 1000000) :
    Calls Try.prog 90 #[R.val] w fun e w' => e = .returned (.int .i64 R.tabs.length) ∧ w = w' := by
  obtain ⟨a, cap, htv⟩ := h.shape2
  have q0 := h.root.cell 0
  rw [htv] at q0
  clear htv h
  go_enter Try.func90, Try.ntmps90
  go_wp2_with fail
  go_ret
  exact ⟨rfl, rfl⟩

set_option maxHeartbeats 400000 in
theorem tables_nil (w : World) :
    Calls Try.prog 90 #[.pointer none] w fun e w' => e = .returned (.int .i64 0) ∧ w = w' := by
  go_enter Try.func90, Try.ntmps90
  go_wp2_with fail
  go_ret
  exact ⟨rfl, rfl⟩

/-- An empty table, made anew. -/
def noTab (b : Nat) : GTab := ⟨b, 0, .slice none 0 0, []⟩
def TabNew (w : World) (e : Ending) (w' : World) : Prop := e = .returned (.pointer (some ⟨w.heap.size, 0, none⟩)) ∧ TabAt w' (noTab w.heap.size) ∧ Fr w w' Nil
theorem tabAt_new (w : World) : TabAt (w.alloc (.cells #[.int .i64 0, .slice none 0 0] 98)) (noTab w.heap.size) :=
  ⟨Bk.new _ _ _, World.ownsRow_nil _ _ _ _, fun r hr => by cases hr⟩

set_option maxHeartbeats 400000 in
theorem table_nil (i : Int) (w : World) : Calls Try.prog 48 #[.pointer none, .int .i64 i] w (TabNew w) := by
  by_cases hi : i < 0
  · go_enter Try.func48, Try.ntmps48
    go_wp2_with fail
    go_ret
    exact ⟨rfl, tabAt_new w, (Fr.refl _ _).alloc _⟩
  · have hi' : 0 ≤ i := by omega
    go_enter Try.func48, Try.ntmps48
    go_wp2_with (go_at_call 90; refine (tables_nil _).mono ?_; rintro e w' ⟨rfl, rfl⟩)
    go_ret
    exact ⟨rfl, tabAt_new _, (Fr.refl _ _).alloc _⟩

set_option maxHeartbeats 400000 in
theorem table_out (R : GRows) (i : Int) (w : World) (h : RowsAt w R) (hl : R.tabs.length ≤ 1000000) (ho : i < 0 ∨ R.tabs.length ≤ i) :
    Calls Try.prog 48 #[R.val, .int .i64 i] w (TabNew w) := by
  have H := Lib.hid h
  clear h
  by_cases hi : i < 0
  · clear ho
    go_enter Try.func48, Try.ntmps48
    go_wp2_with fail
    go_ret
    exact ⟨rfl, tabAt_new w, (Fr.refl _ _).alloc _⟩
  · have hi' : (R.tabs.length : Int) ≤ i := by omega
    clear ho
    go_enter Try.func48, Try.ntmps48
    go_wp2_with (go_at_call 90; refine (tables_any R _ H.out hl).mono ?_; rintro e w' ⟨rfl, rfl⟩)
    go_ret
    exact ⟨rfl, tabAt_new _, (Fr.refl _ _).alloc _⟩

set_option maxHeartbeats 400000 in
theorem table_in (R : GRows) (i : Nat) (t : GTab) (w : World) (h : RowsAt w R) (hl : R.tabs.length ≤ 1000000) (ht : R.tabs[i]? = some t) :
    Calls Try.prog 48 #[R.val, .int .i64 i] w fun e w' => e = .returned (.pointer (some ⟨t.tb, 0, none⟩)) ∧ w = w' := by
  have hi : i < R.tabs.length := (List.getElem?_eq_some_iff.1 ht).1
  rcases h.shape with ⟨_, h2⟩ | ⟨b, cap, htv, _⟩
  · rw [h2] at hi; simp at hi
  have q0 := h.root.cell 0
  have q1 := h.ptr htv i t ht
  rw [htv] at q0
  have H := Lib.hid h
  clear h htv ht
  go_enter Try.func48, Try.ntmps48
  go_wp2_with (go_at_call 90; refine (tables_any R _ H.out hl).mono ?_; rintro e w' ⟨rfl, rfl⟩)
  go_ret
  exact ⟨rfl, rfl⟩

set_option maxHeartbeats 400000 in
theorem has_any (c k : Int) (w : World) :
    Calls Try.prog 82 #[.int .i64 c, .int .i64 k] w fun e w' => e = .returned (.bool (decide (0 ≤ k) && decide (k < c))) ∧ w = w' := by
  by_cases h : 0 ≤ k
  · go_enter Try.func82, Try.ntmps82
    go_wp2_with fail
    go_ret
    exact ⟨by simp [h], rfl⟩
  · go_enter Try.func82, Try.ntmps82
    go_wp2_with fail
    go_ret
    exact ⟨by rw [decide_eq_false (show ¬ 0 ≤ k by omega)]; rfl, rfl⟩

set_option maxHeartbeats 400000 in
theorem find_any (t : GTab) (k : Int) (w : World) (h : TabAt w t) (hs : Sorted t.rows) (hl : t.rows.length ≤ 1000000) :
    Calls Try.prog 50 #[.pointer (some ⟨t.tb, 0, none⟩), .int .i64 k] w (Found t.rows k w) := by
  have q0 := h.blk.cell 1
  have hrl := Lib.hid h.rl
  obtain ⟨a, cap, hlv⟩ := h.rl.shape2
  rw [hlv] at q0 hrl
  clear h hlv
  have Hs := Lib.hid hs
  clear hs
  go_enter Try.func50, Try.ntmps50
  go_wp2_with (go_at_call 91; refine (bsearch_any _ _ _ _ hrl.out Hs.out hl).mono ?_; rintro e w' ⟨rfl, hfr⟩)
  go_ret2
  exact ⟨rfl, hfr⟩


/-- A table as the document has it: how many columns; the rows. -/
abbrev MTab := Nat × List (Int × List Int)
def GTab.mod (t : GTab) : MTab := (t.n, t.rows.map fun r => (r.key, r.cols))
def GRows.mod (R : GRows) : List MTab := R.tabs.map GTab.mod
def mtab (M : List MTab) (i : Int) : MTab := if 0 ≤ i then M[i.toNat]?.getD (0, []) else (0, [])
theorem mtab_in {R : GRows} {i : Int} {t : GTab} (h0 : 0 ≤ i) (h : R.tabs[i.toNat]? = some t) : mtab R.mod i = t.mod := by
  simp [mtab, h0, GRows.mod, h]
theorem mtab_out {R : GRows} {i : Int} (h : i < 0 ∨ (R.tabs.length : Int) ≤ i) : mtab R.mod i = (0, []) := by
  unfold mtab
  split
  · rw [GRows.mod, List.getElem?_eq_none (by simp; omega)]; rfl
  · rfl

/-- What 'table' hands back: a table that is there, or an empty one, made anew. -/
def TabRet (R : GRows) (i : Int) (w : World) (e : Ending) (w' : World) : Prop :=
  ∃ t : GTab, e = .returned (.pointer (some ⟨t.tb, 0, none⟩)) ∧ TabAt w' t ∧ Fr w w' Nil ∧ t.mod = mtab R.mod i ∧ ((0 ≤ i ∧ R.tabs[i.toNat]? = some t) ∨ ((i < 0 ∨ (R.tabs.length : Int) ≤ i) ∧ t = noTab w.heap.size))

theorem table_any (R : GRows) (i : Int) (w : World) (h : RowsAt w R) (hl : R.tabs.length ≤ 1000000) :
    Calls Try.prog 48 #[R.val, .int .i64 i] w (TabRet R i w) := by
  by_cases ho : i < 0 ∨ (R.tabs.length : Int) ≤ i
  · refine (table_out R i w h hl ho).mono ?_
    rintro e w' ⟨rfl, ht, hf⟩
    exact ⟨noTab w.heap.size, rfl, ht, hf, (mtab_out ho).symm, .inr ⟨ho, rfl⟩⟩
  · obtain ⟨n, rfl⟩ := Int.eq_ofNat_of_zero_le (show 0 ≤ i by omega)
    have hn : n < R.tabs.length := by omega
    have ht : R.tabs[n]? = some R.tabs[n] := List.getElem?_eq_getElem hn
    refine (table_in R n _ w h hl ht).mono ?_
    rintro e w' ⟨rfl, rfl⟩
    exact ⟨_, rfl, h.tabs _ (List.getElem_mem hn), Fr.refl _ _, (mtab_in (by omega) (by simp)).symm, .inl ⟨by omega, by simp⟩⟩

def RetInt (n : Int) (w : World) (e : Ending) (w' : World) : Prop := e = .returned (.int .i64 n) ∧ Fr w w' Nil

set_option maxHeartbeats 400000 in
theorem cols_any (R : GRows) (i : Int) (w : World) (h : RowsAt w R) (hl : R.tabs.length ≤ 1000000) :
    Calls Try.prog 76 #[R.val, .int .i64 i] w (RetInt (mtab R.mod i).1 w) := by
  have H := Lib.hid h
  clear h
  go_enter Try.func76, Try.ntmps76
  go_wp2_with fail
  refine (table_any R i _ H.out hl).mono ?_
  rintro e w' ⟨t, rfl, ht, hf, hm, _⟩
  have q0 := ht.blk.cell 0
  have Hm := Lib.hid hm
  clear ht hm
  go_wp2_with fail
  go_ret
  exact ⟨by rw [← Hm.out]; rfl, hf⟩

set_option maxHeartbeats 400000 in
theorem cols_nil (i : Int) (w : World) : Calls Try.prog 76 #[.pointer none, .int .i64 i] w (RetInt 0 w) := by
  go_enter Try.func76, Try.ntmps76
  go_wp2_with fail
  refine (table_nil i _).mono ?_
  rintro e w' ⟨rfl, ht, hf⟩
  have q0 := ht.blk.cell 0
  clear ht
  simp only [noTab] at q0
  go_wp2_with fail
  go_ret
  exact ⟨rfl, hf⟩

set_option maxHeartbeats 400000 in
theorem len_any (R : GRows) (i : Int) (w : World) (h : RowsAt w R) (hl : R.tabs.length ≤ 1000000) :
    Calls Try.prog 68 #[R.val, .int .i64 i] w (RetInt (mtab R.mod i).2.length w) := by
  have H := Lib.hid h
  clear h
  go_enter Try.func68, Try.ntmps68
  go_wp2_with fail
  refine (table_any R i _ H.out hl).mono ?_
  rintro e w' ⟨t, rfl, ht, hf, hm, _⟩
  have q0 := ht.blk.cell 1
  obtain ⟨a, cap, hlv⟩ := ht.rl.shape2
  rw [hlv] at q0
  have Hm := Lib.hid hm
  clear ht hm hlv
  go_wp2_with fail
  go_ret
  exact ⟨by rw [← Hm.out]; simp [GTab.mod], hf⟩

set_option maxHeartbeats 400000 in
theorem len_nil (i : Int) (w : World) : Calls Try.prog 68 #[.pointer none, .int .i64 i] w (RetInt 0 w) := by
  go_enter Try.func68, Try.ntmps68
  go_wp2_with fail
  refine (table_nil i _).mono ?_
  rintro e w' ⟨rfl, ht, hf⟩
  have q0 := ht.blk.cell 1
  clear ht
  simp only [noTab] at q0
  go_wp2_with fail
  go_ret
  exact ⟨rfl, hf⟩
end Go.Proofs.Ytjpenaodkfljhaa
