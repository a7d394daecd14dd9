/-
 How the tables of package rows lie in memory.
 No condition.
 The tables whole; walks of Tables, table, has, Cols, find, Len.
 No condition but sizes.
 Walks of Get, Set, Sum.
 No condition but sizes.
 Walks of Set, Sum.
 No condition but sizes.
-/
import Derived.Test.YtgpekgnhbccnoaaGreatPkY7
import Derived.IntWalk
namespace Go.Proofs.YtgpekgnhbccnoaaGreat
open Go Go.RowKit

/-- A row: its key, the slice of its values, these values. -/
structure GRow where
 key : Int
 cv : Value
 cols : List Int
/-- A table: its block, how many columns, the slice of its rows, these rows. -/
structure GTab where
 tb : Nat
 n : Nat
 lv : Value
 rows : List GRow

def flatR (g : List GRow) : List Value := g.flatMap fun r => [.int .i64 r.key, r.cv]
theorem length_flatR (g : List GRow) : (flatR g).length = g.length * 2 := by
 induction g with
 | nil => rfl
 | cons r g ih => simp only [flatR, List.flatMap_cons, List.length_append, List.length_cons, List.length_nil] at ih ⊢; rw [ih]; omega
theorem flatR_append (g h : List GRow) : flatR (g ++ h) = flatR g ++ flatR h := by simp [flatR]
theorem flatR_key (g : List GRow) (i : Nat) : (flatR g)[i * 2]? = g[i]?.map fun r => .int .i64 r.key := by
 induction g generalizing i with
 | nil => simp [flatR]
 | cons r g ih =>
  cases i with
  | zero => simp [flatR]
  | succ i =>
   have : (i + 1) * 2 = i * 2 + 1 + 1 := by omega
   rw [this]
   simpa [flatR] using ih i
theorem flatR_cv (g : List GRow) (i : Nat) : (flatR g)[i * 2 + 1]? = g[i]?.map fun r => r.cv := by
 induction g generalizing i with
 | nil => simp [flatR]
 | cons r g ih =>
  cases i with
  | zero => simp [flatR]
  | succ i =>
   have : (i + 1) * 2 + 1 = i * 2 + 1 + 1 + 1 := by omega
   rw [this]
   simpa [flatR] using ih i

/-- A slice of rows that is owned: the rows' cells, and each row's values. -/
structure RL (w : World) (lv : Value) (g : List GRow) : Prop where
 own : w.ownsRow 0 128 2 lv g.length (flatR g)
 cols : ∀ r ∈ g, OwnInts w 2 r.cv r.cols
def rlBlocks (lv : Value) (g : List GRow) : List Nat := lv.ownBlock.toList ++ g.flatMap fun r => r.cv.ownBlock.toList
theorem RL.fr {w w' : World} {S : Nat → Prop} {lv : Value} {g : List GRow} (h : RL w lv g) (hf : Fr w w' S) (hd : ∀ k ∈ rlBlocks lv g, ¬ S k) : RL w' lv g := by
 refine ⟨hf.own h.own fun k hk => hd k (by simp [rlBlocks, hk]), fun r hr => (h.cols r hr).fr hf fun k hk => hd k ?_⟩
 simp only [rlBlocks, List.mem_append, List.mem_flatMap]
 exact .inr ⟨r, hr, by simp [hk]⟩
theorem RL.lt {w : World} {lv : Value} {g : List GRow} (h : RL w lv g) : ∀ k ∈ rlBlocks lv g, k < w.heap.size := by
 intro k hk
 simp only [rlBlocks, List.mem_append, List.mem_flatMap, Option.mem_toList] at hk
 rcases hk with hk | ⟨r, hr, hk⟩
 ·exact (World.ownsRow.lt h.own k hk).2
 ·exact (h.cols r hr).lt k hk
theorem RL.shape {w : World} {lv : Value} {g : List GRow} (h : RL w lv g) : (lv = .slice none 0 0 ∧ g = []) ∨ ∃ b cap, lv = .slice (some ⟨b, 0, none⟩) g.length cap ∧ g.length ≤ cap := by
 rcases h.own.2 with ⟨rfl, hn⟩ | ⟨b, cap, cur, rfl, _, _, hc, _⟩
 ·exact .inl ⟨rfl, List.eq_nil_of_length_eq_zero hn⟩
 ·exact .inr ⟨b, cap, rfl, hc⟩
theorem RL.shape2 {w : World} {lv : Value} {g : List GRow} (h : RL w lv g) : ∃ a cap, lv = .slice a g.length cap := by
 rcases h.shape with ⟨rfl, rfl⟩ | ⟨b, cap, rfl, _⟩
 ·exact ⟨none, 0, rfl⟩
 ·exact ⟨_, cap, rfl⟩
theorem RL.key {w : World} {b cap : Nat} {g : List GRow} (h : RL w (.slice (some ⟨b, 0, none⟩) g.length cap) g) (i : Nat) (r : GRow) (hr : g[i]? = some r) : w.cell? ⟨b, i * 2, none⟩ = some (.int .i64 r.key) := by
 have hi : i < g.length := (List.getElem?_eq_some_iff.1 hr).1
 rw [World.ownsRow.cellAt h.own (i * 2) (by omega), flatR_key, hr]
 rfl
theorem RL.cv {w : World} {b cap : Nat} {g : List GRow} (h : RL w (.slice (some ⟨b, 0, none⟩) g.length cap) g) (i : Nat) (r : GRow) (hr : g[i]? = some r) : w.cell? ⟨b, i * 2 + 1, none⟩ = some r.cv := by
 have hi : i < g.length := (List.getElem?_eq_some_iff.1 hr).1
 rw [World.ownsRow.cellAt h.own (i * 2 + 1) (by omega), flatR_cv, hr]
 rfl

/-- Where a key's row is, or would be. -/
def lbK (g : List GRow) (k : Int) : Nat := (g.takeWhile fun r => r.key < k).length
def Sorted (g : List GRow) : Prop := g.Pairwise fun a b => a.key < b.key

theorem Sorted.lt {g : List GRow} (hs : Sorted g) {s t : Nat} {a b : GRow} (h1 : g[s]? = some a) (h2 : g[t]? = some b) (h : s < t) : a.key < b.key := by
 obtain ⟨i1, e1⟩ := List.getElem?_eq_some_iff.1 h1
 obtain ⟨i2, e2⟩ := List.getElem?_eq_some_iff.1 h2
 have := List.pairwise_iff_getElem.1 hs s t i1 i2 h
 rw [e1, e2] at this
 exact this
theorem cmpZ_lt {a b : Int} : cmpZ a b < 0 ↔ a < b := by
 unfold cmpZ; by_cases h1 : a < b
 ·simp [h1]
 ·by_cases h2 : b < a <;> simp [h1, h2]
theorem cmpZ_eq {a b : Int} : cmpZ a b = 0 ↔ a = b := by
 unfold cmpZ; by_cases h1 : a < b
 ·simp [h1]; omega
 ·by_cases h2 : b < a <;> simp [h1, h2] <;> omega
theorem lbK_eq {g : List GRow} {k : Int} : ∀ {i : Nat}, i ≤ g.length → (∀ t r, t < i → g[t]? = some r → r.key < k) → (∀ t r, i ≤ t → g[t]? = some r → k ≤ r.key) → lbK g k = i := by
 induction g with
 | nil => intro i h _ _; simp at h; simp [lbK, h]
 | cons x g ih =>
  intro i h hlo hhi
  cases i with
  | zero =>
   have := hhi 0 x (Nat.le_refl _) rfl
   simp [lbK, show ¬ x.key < k by omega]
  | succ i =>
   have h0 := hlo 0 x (by omega) rfl
   have := ih (i := i) (by simpa using h) (fun t r ht hr => hlo (t + 1) r (by omega) (by simpa using hr)) (fun t r ht hr => hhi (t + 1) r (by omega) (by simpa using hr))
   simp only [lbK, List.takeWhile_cons, h0, decide_true, if_true, List.length_cons]
   simp only [lbK] at this
   omega
theorem found_at {g : List GRow} (hs : Sorted g) {k : Int} {i : Nat} {r : GRow} (hr : g[i]? = some r) (hlo : ∀ t r, t < i → g[t]? = some r → r.key < k) (hhi : ∀ t r, i ≤ t → g[t]? = some r → k ≤ r.key) :
  (decide (∃ r ∈ g, r.key = k)) = (cmpZ r.key k == 0) := by
 rw [Bool.eq_iff_iff, decide_eq_true_iff, beq_iff_eq, cmpZ_eq]
 constructor
 ·rintro ⟨x, hx, hk⟩
  obtain ⟨t, ht⟩ := List.getElem?_of_mem hx
  by_cases h1 : t < i
  ·have := hlo t x h1 ht; omega
  ·by_cases h2 : t = i
   ·subst h2; rw [hr] at ht; cases ht; exact hk
   ·have := hs.lt hr ht (by omega); have := hhi i r (Nat.le_refl _) hr; omega
 ·intro h; exact ⟨r, List.mem_of_getElem? hr, h⟩
theorem found_end {g : List GRow} {k : Int} (hlo : ∀ t r, t < g.length → g[t]? = some r → r.key < k) : (decide (∃ r ∈ g, r.key = k)) = false := by
 rw [decide_eq_false_iff_not]
 rintro ⟨x, hx, hk⟩
 obtain ⟨t, ht⟩ := List.getElem?_of_mem hx
 have := hlo t x (List.getElem?_eq_some_iff.1 ht).1 ht
 omega

set_option maxHeartbeats 400000 in
theorem find1_any (a b : Int) (v : Value) (n c : Nat) (ad : Option Addr) (hv : v = .slice ad n c) (w : World) :
  Calls Tryz.prog 103 #[.agg #[.int .i64 a, v], .int .i64 b] w fun e w' => e = .returned (.int .i64 (cmpZ a b)) ∧ Fr w w' Nil := by
 subst hv
 go_enter Tryz.func103, Tryz.ntmps103
 go_wp2_with (go_at_call 104; refine (cmp_any _ _ _).mono ?_; rintro e w' ⟨rfl, rfl⟩)
 go_ret
 exact ⟨rfl, (Fr.refl _ _).alloc _⟩

def Found (g : List GRow) (k : Int) (w : World) (e : Ending) (w' : World) : Prop := e = .returned (.tuple #[.int .i64 (lbK g k), .bool (decide (∃ r ∈ g, r.key = k))]) ∧ Fr w w' Nil

set_option maxRecDepth 100000 in
set_option maxHeartbeats 400000 in
theorem bsearch_any (lv : Value) (g : List GRow) (k : Int) (w : World) (h : RL w lv g) (hs : Sorted g) (hlen : g.length ≤ 1000000) :
  Calls Tryz.prog 102 #[lv, .int .i64 k, .func (.func 103) #[] #[]] w (Found g k w) := by
 rcases h.shape with ⟨rfl, rfl⟩ | ⟨b, cap, rfl, hcap⟩
 ·go_enter Tryz.func102, Tryz.ntmps102
  go_wp2_with fail
  refine wp_loop_once ?_
  go_wp2_with fail
  go_ret2
  exact ⟨rfl, Fr.refl _ _⟩
 have H := Lib.hid h
 clear h
 have Hs := Lib.hid hs
 clear hs
 go_enter Tryz.func102, Tryz.ntmps102
 go_wp2_with fail
 go_loopw [9, 10] (fun vi vj wr => ∃ i j : Nat, i ≤ j ∧ j ≤ g.length ∧ vi = .int .i64 i ∧ vj = .int .i64 j ∧ Fr w wr Nil ∧ (∀ t r, t < i → g[t]? = some r → r.key < k) ∧ (∀ t r, j ≤ t → g[t]? = some r → k ≤ r.key))
  (fun vi vj _ => (intOf vj - intOf vi).toNat)
 case atStart => exact ⟨0, g.length, by omega, by omega, rfl, rfl, Fr.refl _ _, by omega, fun t r h1 h2 => by have := (List.getElem?_eq_some_iff.1 h2).1; omega⟩
 case round =>
  obtain ⟨i, j, hij, hj, rfl, rfl, hfr, hlo, hhi⟩ := hrel
  have Hfr := Lib.hid hfr
  have Hlo := Lib.hid hlo
  have Hhi := Lib.hid hhi
  clear hfr hlo hhi
  have HR : Hid (RL wr (Value.slice (some { block := b, off := 0 }) g.length cap) g) := H.out.fr Hfr.out (fun _ _ h => h)
  by_cases hlt : i < j
  ·have hu : IntKind.u64.wrap ((i : Int) + j) = (i : Int) + j := IntWalk.u64_in _ (by omega)
   have hm : (i + j) / 2 < g.length := by omega
   have hr : g[(i + j) / 2]? = some g[(i + j) / 2] := List.getElem?_eq_getElem hm
   generalize g[(i + j) / 2] = r at hr
   have q0 := RL.key HR.out _ r hr
   have q1 := RL.cv HR.out _ r hr
   obtain ⟨a', c', hcv⟩ := (HR.out.cols r (List.mem_of_getElem? hr)).shape
   rw [hcv] at q1
   have Hr := Lib.hid hr
   clear hr hcv
   go_wp2_with (go_at_call 103; refine (find1_any _ _ _ _ _ _ rfl _).mono ?_; rintro e w' ⟨rfl, hfr1⟩)
   ·have hc : cmpZ r.key k < 0 := by assumption
    refine ⟨⟨(i + j) / 2 + 1, j, by omega, hj, by go_num, rfl, Hfr.out.trans0 hfr1, ?_, Hhi.out⟩, by simp [intOf]; omega⟩
    intro t r' ht hr'
    have hk := cmpZ_lt.1 hc
    by_cases ht2 : t = (i + j) / 2
    ·subst ht2; rw [Hr.out] at hr'; cases hr'; exact hk
    ·have := Hs.out.lt hr' Hr.out (by omega); omega
   ·have hc : 0 ≤ cmpZ r.key k := by assumption
    refine ⟨⟨i, (i + j) / 2, by omega, by omega, rfl, by go_num, Hfr.out.trans0 hfr1, Hlo.out, ?_⟩, by simp [intOf]; omega⟩
    intro t r' ht hr'
    have hk : ¬ r.key < k := fun h => by have := cmpZ_lt.2 h; omega
    by_cases ht2 : t = (i + j) / 2
    ·subst ht2; rw [Hr.out] at hr'; cases hr'; omega
    ·have := Hs.out.lt Hr.out hr' (by omega); omega
  ·by_cases hlt2 : i < g.length
   ·have hr : g[i]? = some g[i] := List.getElem?_eq_getElem hlt2
    generalize g[i] = r at hr
    have q0 := RL.key HR.out _ r hr
    have q1 := RL.cv HR.out _ r hr
    obtain ⟨a', c', hcv⟩ := (HR.out.cols r (List.mem_of_getElem? hr)).shape
    rw [hcv] at q1
    have Hr := Lib.hid hr
    clear hr hcv
    go_wp2_with (go_at_call 103; refine (find1_any _ _ _ _ _ _ rfl _).mono ?_; rintro e w' ⟨rfl, hfr1⟩)
    go_ret2
    obtain rfl : i = j := by omega
    exact ⟨by rw [found_at Hs.out Hr.out Hlo.out Hhi.out, lbK_eq hj Hlo.out Hhi.out]; rfl, Hfr.out.trans0 hfr1⟩
   ·go_wp2_with fail
    go_ret2
    obtain rfl : i = j := by omega
    obtain rfl : i = g.length := by omega
    exact ⟨by rw [found_end Hlo.out, lbK_eq hj Hlo.out Hhi.out]; rfl, Hfr.out⟩
end Go.Proofs.YtgpekgnhbccnoaaGreat
namespace Go.Proofs.YtgpekgnhbccnoaaGreat
open Go Go.RowKit
attribute [local go_sem ↓] Go.wp_at_zero Go.wp_at_succ

structure TabAt (w : World) (t : GTab) : Prop where
 blk : Bk w t.tb 137 [.int .i64 t.n, t.lv]
 rl : RL w t.lv t.rows
def tBlocks (t : GTab) : List Nat := t.tb :: rlBlocks t.lv t.rows
theorem TabAt.fr {w w' : World} {S : Nat → Prop} {t : GTab} (h : TabAt w t) (hf : Fr w w' S) (hd : ∀ k ∈ tBlocks t, ¬ S k) : TabAt w' t :=
 ⟨h.blk.fr hf (hd _ (by simp [tBlocks])), h.rl.fr hf fun k hk => hd k (by simp [tBlocks, hk])⟩
theorem TabAt.lt {w : World} {t : GTab} (h : TabAt w t) : ∀ k ∈ tBlocks t, k < w.heap.size := by
 intro k hk
 simp only [tBlocks, List.mem_cons] at hk
 rcases hk with rfl | hk
 ·exact h.blk.lt
 ·exact h.rl.lt k hk

structure GRows where
 rb : Nat
 tv : Value
 tabs : List GTab
def ptrs (l : List GTab) : List Value := l.map fun t => .pointer (some ⟨t.tb, 0, none⟩)
structure RowsAt (w : World) (R : GRows) : Prop where
 root : Bk w R.rb 133 [R.tv]
 own : w.ownsRow 0 134 1 R.tv R.tabs.length (ptrs R.tabs)
 tabs : ∀ t ∈ R.tabs, TabAt w t
def gBlocks (R : GRows) : List Nat := R.rb :: (R.tv.ownBlock.toList ++ R.tabs.flatMap tBlocks)
theorem RowsAt.fr {w w' : World} {S : Nat → Prop} {R : GRows} (h : RowsAt w R) (hf : Fr w w' S) (hd : ∀ k ∈ gBlocks R, ¬ S k) : RowsAt w' R := by
 refine ⟨h.root.fr hf (hd _ (by simp [gBlocks])), hf.own h.own fun k hk => hd k (by simp [gBlocks, hk]), fun t ht => (h.tabs t ht).fr hf fun k hk => hd k ?_⟩
 simp only [gBlocks, List.mem_cons, List.mem_append, List.mem_flatMap]
 exact .inr (.inr ⟨t, ht, hk⟩)
theorem RowsAt.lt {w : World} {R : GRows} (h : RowsAt w R) : ∀ k ∈ gBlocks R, k < w.heap.size := by
 intro k hk
 simp only [gBlocks, List.mem_cons, List.mem_append, List.mem_flatMap, Option.mem_toList] at hk
 rcases hk with rfl | hk | ⟨t, ht, hk⟩
 ·exact h.root.lt
 ·exact (World.ownsRow.lt h.own k hk).2
 ·exact (h.tabs t ht).lt k hk
theorem RowsAt.shape {w : World} {R : GRows} (h : RowsAt w R) : (R.tv = .slice none 0 0 ∧ R.tabs = []) ∨ ∃ b cap, R.tv = .slice (some ⟨b, 0, none⟩) R.tabs.length cap ∧ R.tabs.length ≤ cap := by
 rcases h.own.2 with ⟨h1, hn⟩ | ⟨b, cap, cur, h1, _, _, hc, _⟩
 ·exact .inl ⟨h1, List.eq_nil_of_length_eq_zero hn⟩
 ·exact .inr ⟨b, cap, h1, hc⟩
theorem RowsAt.shape2 {w : World} {R : GRows} (h : RowsAt w R) : ∃ a cap, R.tv = .slice a R.tabs.length cap := by
 rcases h.shape with ⟨h1, h2⟩ | ⟨b, cap, h1, _⟩
 ·exact ⟨none, 0, by rw [h1, h2]; rfl⟩
 ·exact ⟨_, cap, h1⟩
theorem RowsAt.ptr {w : World} {R : GRows} {b cap : Nat} (h : RowsAt w R) (htv : R.tv = .slice (some ⟨b, 0, none⟩) R.tabs.length cap) (i : Nat) (t : GTab) (ht : R.tabs[i]? = some t) :
  w.cell? ⟨b, i, none⟩ = some (.pointer (some ⟨t.tb, 0, none⟩)) := by
 have hi : i < R.tabs.length := (List.getElem?_eq_some_iff.1 ht).1
 have ho := h.own
 rw [htv] at ho
 rw [World.ownsRow.cellAt ho i (by omega)]
 simp [ptrs, ht]

/-- The pointer to the tables. -/
abbrev GRows.val (R : GRows) : Value := .pointer (some ⟨R.rb, 0, none⟩)

set_option maxHeartbeats 400000 in
theorem tables_any (R : GRows) (w : World) (h : RowsAt w R) (_hl : R.tabs.length ≤ 1000000) :
  Calls Tryz.prog 92 #[R.val] w fun e w' => e = .returned (.int .i64 R.tabs.length) ∧ w = w' := by
 obtain ⟨a, cap, htv⟩ := h.shape2
 have q0 := h.root.cell 0
 rw [htv] at q0
 clear htv h
 go_enter Tryz.func92, Tryz.ntmps92
 go_wp2_with fail
 go_ret
 exact ⟨rfl, rfl⟩

set_option maxHeartbeats 400000 in
theorem tables_nil (w : World) :
  Calls Tryz.prog 92 #[.pointer none] w fun e w' => e = .returned (.int .i64 0) ∧ w = w' := by
 go_enter Tryz.func92, Tryz.ntmps92
 go_wp2_with fail
 go_ret
 exact ⟨rfl, rfl⟩

/-- An empty table, made anew. -/
def noTab (b : Nat) : GTab := ⟨b, 0, .slice none 0 0, []⟩
def TabNew (w : World) (e : Ending) (w' : World) : Prop := e = .returned (.pointer (some ⟨w.heap.size, 0, none⟩)) ∧ TabAt w' (noTab w.heap.size) ∧ Fr w w' Nil
theorem tabAt_new (w : World) : TabAt (w.alloc (.cells #[.int .i64 0, .slice none 0 0] 137)) (noTab w.heap.size) :=
 ⟨Bk.new _ _ _, World.ownsRow_nil _ _ _ _, fun r hr => by cases hr⟩

set_option maxHeartbeats 400000 in
theorem table_nil (i : Int) (w : World) : Calls Tryz.prog 74 #[.pointer none, .int .i64 i] w (TabNew w) := by
 by_cases hi : i < 0
 ·go_enter Tryz.func74, Tryz.ntmps74
  go_wp2_with fail
  go_ret
  exact ⟨rfl, tabAt_new w, (Fr.refl _ _).alloc _⟩
 ·have hi' : 0 ≤ i := by omega
  go_enter Tryz.func74, Tryz.ntmps74
  go_wp2_with (go_at_call 92; refine (tables_nil _).mono ?_; rintro e w' ⟨rfl, rfl⟩)
  go_ret
  exact ⟨rfl, tabAt_new _, (Fr.refl _ _).alloc _⟩

set_option maxHeartbeats 400000 in
theorem table_out (R : GRows) (i : Int) (w : World) (h : RowsAt w R) (hl : R.tabs.length ≤ 1000000) (ho : i < 0 ∨ R.tabs.length ≤ i) :
  Calls Tryz.prog 74 #[R.val, .int .i64 i] w (TabNew w) := by
 have H := Lib.hid h
 clear h
 by_cases hi : i < 0
 ·clear ho
  go_enter Tryz.func74, Tryz.ntmps74
  go_wp2_with fail
  go_ret
  exact ⟨rfl, tabAt_new w, (Fr.refl _ _).alloc _⟩
 ·have hi' : (R.tabs.length : Int) ≤ i := by omega
  clear ho
  go_enter Tryz.func74, Tryz.ntmps74
  go_wp2_with (go_at_call 92; refine (tables_any R _ H.out hl).mono ?_; rintro e w' ⟨rfl, rfl⟩)
  go_ret
  exact ⟨rfl, tabAt_new _, (Fr.refl _ _).alloc _⟩

set_option maxHeartbeats 400000 in
theorem table_in (R : GRows) (i : Nat) (t : GTab) (w : World) (h : RowsAt w R) (hl : R.tabs.length ≤ 1000000) (ht : R.tabs[i]? = some t) :
  Calls Tryz.prog 74 #[R.val, .int .i64 i] w fun e w' => e = .returned (.pointer (some ⟨t.tb, 0, none⟩)) ∧ w = w' := by
 have hi : i < R.tabs.length := (List.getElem?_eq_some_iff.1 ht).1
 rcases h.shape with ⟨_, h2⟩ | ⟨b, cap, htv, _⟩
 ·rw [h2] at hi; simp at hi
 have q0 := h.root.cell 0
 have q1 := h.ptr htv i t ht
 rw [htv] at q0
 have H := Lib.hid h
 clear h htv ht
 go_enter Tryz.func74, Tryz.ntmps74
 go_wp2_with (go_at_call 92; refine (tables_any R _ H.out hl).mono ?_; rintro e w' ⟨rfl, rfl⟩)
 go_ret
 exact ⟨rfl, rfl⟩

set_option maxHeartbeats 400000 in
theorem has_any (c k : Int) (w : World) :
  Calls Tryz.prog 78 #[.int .i64 c, .int .i64 k] w fun e w' => e = .returned (.bool (decide (0 ≤ k) && decide (k < c))) ∧ w = w' := by
 by_cases h : 0 ≤ k
 ·go_enter Tryz.func78, Tryz.ntmps78
  go_wp2_with fail
  go_ret
  exact ⟨by simp [h], rfl⟩
 ·go_enter Tryz.func78, Tryz.ntmps78
  go_wp2_with fail
  go_ret
  exact ⟨by rw [decide_eq_false (show ¬ 0 ≤ k by omega)]; rfl, rfl⟩

set_option maxHeartbeats 400000 in
theorem find_any (t : GTab) (k : Int) (w : World) (h : TabAt w t) (hs : Sorted t.rows) (hl : t.rows.length ≤ 1000000) :
  Calls Tryz.prog 76 #[.pointer (some ⟨t.tb, 0, none⟩), .int .i64 k] w (Found t.rows k w) := by
 have q0 := h.blk.cell 1
 have hrl := Lib.hid h.rl
 obtain ⟨a, cap, hlv⟩ := h.rl.shape2
 rw [hlv] at q0 hrl
 clear h hlv
 have Hs := Lib.hid hs
 clear hs
 go_enter Tryz.func76, Tryz.ntmps76
 go_wp2_with (go_at_call 102; refine (bsearch_any _ _ _ _ hrl.out Hs.out hl).mono ?_; rintro e w' ⟨rfl, hfr⟩)
 go_ret2
 exact ⟨rfl, hfr⟩


/-- A table as the document has it: how many columns; the rows. -/
abbrev MTab := Nat × List (Int × List Int)
def GTab.mod (t : GTab) : MTab := (t.n, t.rows.map fun r => (r.key, r.cols))
def GRows.mod (R : GRows) : List MTab := R.tabs.map GTab.mod
def mtab (M : List MTab) (i : Int) : MTab := if 0 ≤ i then M[i.toNat]?.getD (0, []) else (0, [])
theorem mtab_in {R : GRows} {i : Int} {t : GTab} (h0 : 0 ≤ i) (h : R.tabs[i.toNat]? = some t) : mtab R.mod i = t.mod := by
 simp [mtab, h0, GRows.mod, h]
theorem mtab_out {R : GRows} {i : Int} (h : i < 0 ∨ (R.tabs.length : Int) ≤ i) : mtab R.mod i = (0, []) := by
 unfold mtab
 split
 ·rw [GRows.mod, List.getElem?_eq_none (by simp; omega)]; rfl
 ·rfl

/-- What 'table' hands back: a table that is there, or an empty one, made anew. -/
def TabRet (R : GRows) (i : Int) (w : World) (e : Ending) (w' : World) : Prop :=
 ∃ t : GTab, e = .returned (.pointer (some ⟨t.tb, 0, none⟩)) ∧ TabAt w' t ∧ Fr w w' Nil ∧ t.mod = mtab R.mod i ∧ ((0 ≤ i ∧ R.tabs[i.toNat]? = some t) ∨ ((i < 0 ∨ (R.tabs.length : Int) ≤ i) ∧ t = noTab w.heap.size))

theorem table_any (R : GRows) (i : Int) (w : World) (h : RowsAt w R) (hl : R.tabs.length ≤ 1000000) :
  Calls Tryz.prog 74 #[R.val, .int .i64 i] w (TabRet R i w) := by
 by_cases ho : i < 0 ∨ (R.tabs.length : Int) ≤ i
 ·refine (table_out R i w h hl ho).mono ?_
  rintro e w' ⟨rfl, ht, hf⟩
  exact ⟨noTab w.heap.size, rfl, ht, hf, (mtab_out ho).symm, .inr ⟨ho, rfl⟩⟩
 ·obtain ⟨n, rfl⟩ := Int.eq_ofNat_of_zero_le (show 0 ≤ i by omega)
  have hn : n < R.tabs.length := by omega
  have ht : R.tabs[n]? = some R.tabs[n] := List.getElem?_eq_getElem hn
  refine (table_in R n _ w h hl ht).mono ?_
  rintro e w' ⟨rfl, rfl⟩
  exact ⟨_, rfl, h.tabs _ (List.getElem_mem hn), Fr.refl _ _, (mtab_in (by omega) (by simp)).symm, .inl ⟨by omega, by simp⟩⟩

def RetInt (n : Int) (w : World) (e : Ending) (w' : World) : Prop := e = .returned (.int .i64 n) ∧ Fr w w' Nil

set_option maxHeartbeats 400000 in
theorem cols_any (R : GRows) (i : Int) (w : World) (h : RowsAt w R) (hl : R.tabs.length ≤ 1000000) :
  Calls Tryz.prog 91 #[R.val, .int .i64 i] w (RetInt (mtab R.mod i).1 w) := by
 have H := Lib.hid h
 clear h
 go_enter Tryz.func91, Tryz.ntmps91
 go_wp2_with fail
 refine (table_any R i _ H.out hl).mono ?_
 rintro e w' ⟨t, rfl, ht, hf, hm, _⟩
 have q0 := ht.blk.cell 0
 have Hm := Lib.hid hm
 clear ht hm
 go_wp2_with fail
 go_ret
 exact ⟨by rw [← Hm.out]; rfl, hf⟩

end Go.Proofs.YtgpekgnhbccnoaaGreat
namespace Go.Proofs.YtgpekgnhbccnoaaGreat
open Go Go.RowKit

structure GoodT (T : MTab) : Prop where
 sorted : T.2.Pairwise fun a b => a.1 < b.1
 width : ∀ r ∈ T.2, r.2.length = T.1
 le : T.1 ≤ 16
 few : T.2.length ≤ 1000000
theorem goodT_none : GoodT (0, []) := ⟨List.Pairwise.nil, fun r hr => (by cases hr), by decide, by decide⟩
structure Good (M : List MTab) : Prop where
 tabs : ∀ T ∈ M, GoodT T ∧ 1 ≤ T.1
 few : M.length ≤ 64
theorem Good.at {M : List MTab} (h : Good M) (i : Int) : GoodT (mtab M i) := by
 unfold mtab
 split
 ·cases hi : M[i.toNat]? with
  | none => exact goodT_none
  | some T => exact (h.tabs T (List.mem_of_getElem? hi)).1
 ·exact goodT_none
theorem GoodT.sorted' {t : GTab} (h : GoodT t.mod) : Sorted t.rows := by
 have := h.sorted
 simp only [GTab.mod, List.pairwise_map] at this
 exact this
theorem GoodT.few' {t : GTab} (h : GoodT t.mod) : t.rows.length ≤ 1000000 := by
 have := h.few
 simpa [GTab.mod] using this
theorem GoodT.width' {t : GTab} (h : GoodT t.mod) : ∀ r ∈ t.rows, r.cols.length = t.n := fun r hr =>
 h.width (r.key, r.cols) (by simp only [GTab.mod, List.mem_map]; exact ⟨r, hr, rfl⟩)

def mget (T : MTab) (k : Int) : Option (List Int) := (T.2.find? fun r => r.1 == k).map (·.2)
theorem mget_none {T : MTab} {k : Int} (h : ¬ ∃ r ∈ T.2, r.1 = k) : mget T k = none := by
 unfold mget
 rw [List.find?_eq_none.2 fun r hr hk => h ⟨r, hr, by simpa using hk⟩]
 rfl
theorem sorted_of_lt {g : List GRow} (hs : Sorted g) {k : Int} : (∀ t r, t < lbK g k → g[t]? = some r → r.key < k) ∧ (∀ t r, lbK g k ≤ t → g[t]? = some r → k ≤ r.key) := by
 induction g with
 | nil => exact ⟨fun t r _ h => by simp at h, fun t r _ h => by simp at h⟩
 | cons x g ih =>
  have hx := List.pairwise_cons.1 hs
  have ih := ih hx.2
  by_cases hk : x.key < k
  ·have e : lbK (x :: g) k = lbK g k + 1 := by simp [lbK, hk]
   rw [e]
   constructor
   ·intro t r ht hr
    cases t with
    | zero => simp at hr; subst hr; exact hk
    | succ t => exact ih.1 t r (by omega) (by simpa using hr)
   ·intro t r ht hr
    cases t with
    | zero => omega
    | succ t => exact ih.2 t r (by omega) (by simpa using hr)
  ·have e : lbK (x :: g) k = 0 := by simp [lbK, hk]
   rw [e]
   constructor
   ·intro t r ht; omega
   ·intro t r _ hr
    cases t with
    | zero => simp at hr; subst hr; omega
    | succ t =>
     have := hx.1 r (List.mem_of_getElem? (show g[t]? = some r by simpa using hr))
     omega
theorem lbK_le (g : List GRow) (k : Int) : lbK g k ≤ g.length := by unfold lbK; exact (List.takeWhile_sublist _).length_le
/-- Where the key is, its row is found. -/
theorem row_found {g : List GRow} (hs : Sorted g) {k : Int} (h : ∃ r ∈ g, r.key = k) : ∃ r, g[lbK g k]? = some r ∧ r.key = k := by
 obtain ⟨x, hx, rfl⟩ := h
 obtain ⟨t, ht⟩ := List.getElem?_of_mem hx
 have h1 := sorted_of_lt hs (k := x.key)
 have hlt := (List.getElem?_eq_some_iff.1 ht).1
 by_cases hle : lbK g x.key < t
 ·have hb : lbK g x.key < g.length := by omega
  have hr := List.getElem?_eq_getElem hb
  have h2 := h1.2 _ _ (Nat.le_refl _) hr
  have h3 := hs.lt hr ht hle
  omega
 ·by_cases he : lbK g x.key = t
  ·exact ⟨x, by rw [he]; exact ht, rfl⟩
  ·have := h1.1 t x (by omega) ht
   omega
theorem mget_found {t : GTab} (hs : Sorted t.rows) {k : Int} {i : Nat} {r : GRow} (hr : t.rows[i]? = some r) (hk : r.key = k) : mget t.mod k = some r.cols := by
 unfold mget GTab.mod
 subst hk
 simp only [List.find?_map]
 have : t.rows.find? ((fun x : Int × List Int => x.1 == r.key) ∘ fun x : GRow => (x.key, x.cols)) = some r := by
  rw [List.find?_eq_some_iff_getElem]
  refine ⟨by simp, i, (List.getElem?_eq_some_iff.1 hr).1, (List.getElem?_eq_some_iff.1 hr).2, ?_⟩
  intro j hj
  have hjl : j < t.rows.length := by have := (List.getElem?_eq_some_iff.1 hr).1; omega
  have := hs.lt (List.getElem?_eq_getElem hjl) hr hj
  simp; omega
 rw [this]
 rfl

def GetRet (T : MTab) (k : Int) (w : World) (e : Ending) (w' : World) : Prop :=
 (∃ xs, mget T k = some xs ∧ ∃ a cap, e = .returned (.tuple #[.slice a xs.length cap, .bool true]) ∧ Cloned xs w (.slice a xs.length cap) w') ∨
 (mget T k = none ∧ e = .returned (.tuple #[.slice none 0 0, .bool false]) ∧ Fr w w' Nil)
theorem Cloned.after {xs : List Int} {w w1 w' : World} {v : Value} (hf : Fr w w1 Nil) (h : Cloned xs w1 v w') : Cloned xs w v w' :=
 ⟨h.1, fun k hk => Nat.le_trans hf.size (h.2.1 k hk), hf.trans0 h.2.2⟩

set_option maxHeartbeats 400000 in
theorem get_any (R : GRows) (i k : Int) (w : World) (h : RowsAt w R) (hg : Good R.mod) :
  Calls Tryz.prog 94 #[R.val, .int .i64 i, .int .i64 k] w (GetRet (mtab R.mod i) k w) := by
 have H := Lib.hid h
 have hl : R.tabs.length ≤ 1000000 := by have := hg.few; simp [GRows.mod] at this; omega
 have Hg := Lib.hid (hg.at i)
 clear h hg
 go_enter Tryz.func94, Tryz.ntmps94
 go_wp2_with fail
 refine (table_any R i _ H.out hl).mono ?_
 rintro e w1 ⟨t, rfl, ht, hf, hm, _⟩
 rw [← hm] at Hg
 have Hm := Lib.hid hm
 clear hm
 have Ht := Lib.hid ht
 have Hf := Lib.hid hf
 clear ht hf
 go_wp2_with fail
 refine (find_any t k _ Ht.out Hg.out.sorted' Hg.out.few').mono ?_
 rintro e w2 ⟨rfl, hf2⟩
 have Hf2 := Lib.hid hf2
 have Ht2 : Hid (TabAt w2 t) := Ht.out.fr hf2 fun _ _ h => h
 clear hf2
 by_cases hx : ∃ r ∈ t.rows, r.key = k
 ·obtain ⟨r, hr, hk⟩ := row_found Hg.out.sorted' hx
  have hlt := (List.getElem?_eq_some_iff.1 hr).1
  rcases Ht2.out.rl.shape with ⟨_, h2⟩ | ⟨b, cap, hlv, _⟩
  ·rw [h2] at hlt; simp at hlt
  have hrl := Ht2.out.rl
  rw [hlv] at hrl
  have q0 := Ht2.out.blk.cell 1
  rw [hlv] at q0
  have q1 := hrl.cv _ r hr
  have hc := hrl.cols r (List.mem_of_getElem? hr)
  obtain ⟨a', c', hcv⟩ := hc.shape
  rw [hcv] at q1 hc
  have Hc := Lib.hid hc
  have hwd : r.cols.length ≤ 1000000 := by
   have := Hg.out.width' r (List.mem_of_getElem? hr)
   have h3 := Hg.out.le
   simp only [GTab.mod] at h3
   omega
  have HM := Lib.hid (mget_found Hg.out.sorted' hr hk)
  rw [decide_eq_true hx]
  generalize lbK t.rows k = n at *
  clear hrl hc hcv hr hlv hk hx
  go_wp2_with (go_at_call 47; refine (clone_any _ r.cols _ Hc.out.at hwd).mono ?_; rintro e w3 ⟨a3, c3, rfl, hcl⟩)
  go_ret2
  exact .inl ⟨r.cols, by rw [← Hm.out]; exact HM.out, a3, c3, rfl, hcl.after (Hf.out.trans0 Hf2.out)⟩
 ·have HM : Hid (mget t.mod k = none) := mget_none (by
   simp only [GTab.mod, List.mem_map]
   rintro ⟨_, ⟨r, hr, rfl⟩, hk⟩
   exact hx ⟨r, hr, hk⟩)
  rw [decide_eq_false hx]
  clear hx
  go_wp2_with fail
  go_ret2
  exact .inr ⟨by rw [← Hm.out]; exact HM.out, rfl, Hf.out.trans0 Hf2.out⟩

/-- A value of a row is set. -/
def GRow.set (r : GRow) (c : Nat) (x : Int) : GRow := { r with cols := r.cols.set c x }
theorem RL.set {w : World} {lv : Value} {C D : List GRow} {r : GRow} {b cap c : Nat} (h : RL w lv (C ++ r :: D)) (hn : (rlBlocks lv (C ++ r :: D)).Nodup)
  (hcv : r.cv = .slice (some ⟨b, 0, none⟩) r.cols.length cap) (x : Int) :
  RL (w.setCell ⟨b, c, none⟩ (.int .i64 x)) lv (C ++ r.set c x :: D) := by
 have hob : r.cv.ownBlock = some b := by rw [hcv]; rfl
 have hsplit : rlBlocks lv (C ++ r :: D) = (lv.ownBlock.toList ++ C.flatMap fun r => r.cv.ownBlock.toList) ++ [b] ++ D.flatMap fun r => r.cv.ownBlock.toList := by
  simp [rlBlocks, hob]
 rw [hsplit] at hn
 have hb := (nodup_mid hn).1 b (by simp)
 simp only [List.mem_append, Option.mem_toList, List.mem_flatMap, not_or, not_exists, not_and] at hb
 have hfr : Fr w (w.setCell ⟨b, c, none⟩ (.int .i64 x)) (fun k => k = b) := Fr.store _ _ _ _
 refine ⟨?_, ?_⟩
 ·have e : flatR (C ++ r.set c x :: D) = flatR (C ++ r :: D) := by simp [flatR, GRow.set]
  have e2 : (C ++ r.set c x :: D).length = (C ++ r :: D).length := by simp
  rw [e, e2]
  exact hfr.own h.own fun k hk he => hb.1.1 (he ▸ hk)
 ·intro r' hr'
  simp only [List.mem_append, List.mem_cons] at hr'
  rcases hr' with hr' | rfl | hr'
  ·exact (h.cols r' (by simp [hr'])).fr hfr fun k hk he => hb.1.2 r' hr' (he ▸ hk)
  ·have h0 := h.cols r (by simp)
   unfold OwnInts at h0 ⊢
   rw [hcv] at h0
   have := (h0.stored c (.int .i64 x)).1
   simp only [GRow.set, List.length_set, hcv]
   rw [List.map_set]
   exact this
  ·exact (h.cols r' (by simp [hr'])).fr hfr fun k hk he => hb.2 r' hr' (he ▸ hk)

/-- Table i is another one. -/
def GRows.upd (R : GRows) (i : Nat) (t : GTab) : GRows := { R with tabs := R.tabs.set i t }
theorem gBlocks_split (R : GRows) {i : Nat} {t : GTab} (ht : R.tabs[i]? = some t) (t' : GTab) :
  gBlocks (R.upd i t') = (R.rb :: (R.tv.ownBlock.toList ++ (R.tabs.take i).flatMap tBlocks)) ++ tBlocks t' ++ (R.tabs.drop (i + 1)).flatMap tBlocks := by
 obtain ⟨h1, h2⟩ := split_at ht
 have : R.tabs.set i t' = R.tabs.take i ++ t' :: R.tabs.drop (i + 1) := by
  conv => lhs; rw [h1]
  conv => lhs; arg 2; rw [← h2]
  exact set_at _ _ _ _
 simp only [gBlocks, GRows.upd, this]
 simp
theorem upd_self (R : GRows) {i : Nat} {t : GTab} (ht : R.tabs[i]? = some t) : R.upd i t = R := by
 obtain ⟨hi, rfl⟩ := List.getElem?_eq_some_iff.1 ht
 simp [GRows.upd]
theorem GRows.upd_mod (R : GRows) (i : Nat) (t : GTab) : (R.upd i t).mod = R.mod.set i t.mod := by simp [GRows.upd, GRows.mod, List.map_set]
/-- A table has turned, by itself. -/
theorem RowsAt.upd {w w' : World} {R : GRows} {S : Nat → Prop} {i : Nat} {t t' : GTab} (h : RowsAt w R) (hn : (gBlocks R).Nodup) (ht : R.tabs[i]? = some t) (htb : t'.tb = t.tb)
  (hf : Fr w w' S) (hS : ∀ k, S k → k ∈ tBlocks t) (h' : TabAt w' t') (hn' : (tBlocks t').Nodup) (hb : ∀ k ∈ tBlocks t', k ∈ tBlocks t ∨ w.heap.size ≤ k) :
  RowsAt w' (R.upd i t') ∧ (gBlocks (R.upd i t')).Nodup ∧ (∀ k ∈ gBlocks (R.upd i t'), k ∈ gBlocks R ∨ w.heap.size ≤ k) ∧ (∀ k, S k → k ∈ gBlocks R) := by
 have e0 := gBlocks_split R ht t
 rw [upd_self R ht] at e0
 have hlt := h.lt
 rw [e0] at hn
 have hm := (nodup_mid hn).1
 have hSg : ∀ k, S k → k ∈ gBlocks R := fun k hk => by rw [e0]; simp [hS k hk]
 refine ⟨?_, ?_, ?_, hSg⟩
 ·refine ⟨h.root.fr hf fun hs => (hm _ (hS _ hs)).1 (by simp), ?_, ?_⟩
  ·have e : ptrs (R.tabs.set i t') = ptrs R.tabs := by
    simp only [ptrs, List.map_set]
    rw [htb]
    obtain ⟨hi, rfl⟩ := List.getElem?_eq_some_iff.1 ht
    apply List.ext_getElem?
    intro j
    by_cases hj : j = i
    ·subst hj; simp [hi]
    ·rw [List.getElem?_set_ne (Ne.symm hj)]
   show w'.ownsRow 0 _ 1 R.tv (R.tabs.set i t').length (ptrs (R.tabs.set i t'))
   rw [e, List.length_set]
   exact hf.own h.own fun k hk hs => (hm _ (hS _ hs)).1 (by simp [hk])
  ·intro t2 ht2
   obtain ⟨j, hj⟩ := List.getElem?_of_mem ht2
   simp only [GRows.upd, List.getElem?_set] at hj
   split at hj
   ·split at hj
    ·cases hj; exact h'
    ·cases hj
   ·rename_i hne
    refine (h.tabs t2 (List.mem_of_getElem? hj)).fr hf fun k hk hs => ?_
    have := hm _ (hS _ hs)
    have hlt2 := (List.getElem?_eq_some_iff.1 hj).1
    rcases Nat.lt_or_ge j i with h3 | h3
    ·refine this.1 ?_
     simp only [List.mem_cons, List.mem_append, List.mem_flatMap]
     exact .inr (.inr ⟨t2, List.mem_of_getElem? (show (R.tabs.take i)[j]? = some t2 by rw [List.getElem?_take, if_pos h3]; exact hj), hk⟩)
    ·refine this.2 ?_
     simp only [List.mem_flatMap]
     exact ⟨t2, List.mem_of_getElem? (show (R.tabs.drop (i + 1))[j - (i + 1)]? = some t2 by rw [List.getElem?_drop, show i + 1 + (j - (i + 1)) = j by omega]; exact hj), hk⟩
 ·rw [gBlocks_split R ht t']
  exact nodup_replace hn hn' hb (fun k hk => hlt k (by rw [e0]; simp only [List.mem_append]; exact .inl (.inl hk))) (fun k hk => hlt k (by rw [e0]; simp only [List.mem_append]; exact .inr hk))
 ·intro k hk
  rw [gBlocks_split R ht t'] at hk
  rw [e0]
  simp only [List.mem_append] at hk ⊢
  rcases hk with (hk | hk) | hk
  ·exact .inl (.inl (.inl hk))
  ·rcases hb k hk with h1 | h1
   ·exact .inl (.inl (.inr h1))
   ·exact .inr h1
  ·exact .inl (.inr hk)
end Go.Proofs.YtgpekgnhbccnoaaGreat
namespace Go.Proofs.YtgpekgnhbccnoaaGreat
open Go Go.RowKit

def MTab.set (T : MTab) (k : Int) (c : Nat) (x : Int) : MTab := (T.1, T.2.map fun r => if r.1 = k then (r.1, r.2.set c x) else r)
def mset (M : List MTab) (i k c x : Int) : List MTab × Bool × Int :=
 if 0 ≤ c ∧ c < (mtab M i).1 then (if (mget (mtab M i) k).isSome then (M.set i.toNat ((mtab M i).set k c.toNat x), true, 0) else (M, false, 0)) else (M, false, 2)

/-- The tables are others, as M' says, in the same place and in new memory. -/
def Upd (R : GRows) (w : World) (M' : List MTab) (w' : World) : Prop :=
 ∃ R' : GRows, R'.rb = R.rb ∧ RowsAt w' R' ∧ (gBlocks R').Nodup ∧ (∀ k ∈ gBlocks R', k ∈ gBlocks R ∨ w.heap.size ≤ k) ∧ Fr w w' (fun k => k ∈ gBlocks R) ∧ R'.mod = M'
theorem Upd.same {R : GRows} {w w' : World} (h : RowsAt w R) (hn : (gBlocks R).Nodup) (hf : Fr w w' Nil) : Upd R w R.mod w' :=
 ⟨R, rfl, h.fr hf fun _ _ h => h, hn, fun _ hk => .inl hk, hf.of_nil, rfl⟩
theorem Upd.after {R : GRows} {w w1 w' : World} {M : List MTab} (hf : Fr w w1 Nil) (h : Upd R w1 M w') : Upd R w M w' := by
 obtain ⟨R', h1, h2, h3, h4, h5, h6⟩ := h
 exact ⟨R', h1, h2, h3, fun k hk => (h4 k hk).imp id fun h => Nat.le_trans hf.size h, hf.of_nil.transS h5, h6⟩
theorem Upd.drew {R : GRows} {w w' : World} {M : List MTab} (h : Upd R w M w') : Upd R w M w'.drew := by
 obtain ⟨R', h1, h2, h3, h4, h5, h6⟩ := h
 exact ⟨R', h1, h2.fr ((Fr.refl w' Nil).drew) (fun _ _ h => h), h3, h4, h5.drew, h6⟩
def RetUpd (R : GRows) (w : World) (x : List MTab × Bool × Int) (e : Ending) (w' : World) : Prop :=
 e = .returned (.tuple #[.bool x.2.1, .int .i64 x.2.2]) ∧ Upd R w x.1 w'

theorem set_mod {t : GTab} (hs : Sorted t.rows) {n : Nat} {r : GRow} (hr : t.rows[n]? = some r) (c : Nat) (x : Int) :
  GTab.mod { t with rows := t.rows.take n ++ r.set c x :: t.rows.drop (n + 1) } = t.mod.set r.key c x := by
 obtain ⟨h1, h2⟩ := split_at hr
 have hl : ∀ r' ∈ t.rows.take n, r'.key ≠ r.key := by
  intro r' h' e
  obtain ⟨j, hj⟩ := List.getElem?_of_mem h'
  rw [List.getElem?_take] at hj
  split at hj
  ·have := hs.lt hj hr (by assumption); omega
  ·cases hj
 have hd : ∀ r' ∈ t.rows.drop (n + 1), r'.key ≠ r.key := by
  intro r' h' e
  obtain ⟨j, hj⟩ := List.getElem?_of_mem h'
  rw [List.getElem?_drop] at hj
  have := hs.lt hr hj (by omega); omega
 have e : t.mod.set r.key c x = GTab.mod { t with rows := t.rows.take n ++ r.set c x :: t.rows.drop (n + 1) } := by
  unfold MTab.set GTab.mod
  simp only
  congr 1
  conv => lhs; rw [h1]
  simp only [List.map_append, List.map_cons, List.map_map, GRow.set, if_true]
  congr 1
  ·apply List.map_congr_left
   intro r' h'
   simp [hl r' h']
  ·congr 1
   apply List.map_congr_left
   intro r' h'
   simp [hd r' h']
 exact e.symm
theorem mem_split {R : GRows} {i : Nat} {t : GTab} (ht : R.tabs[i]? = some t) : gBlocks R = (R.rb :: (R.tv.ownBlock.toList ++ (R.tabs.take i).flatMap tBlocks)) ++ tBlocks t ++ (R.tabs.drop (i + 1)).flatMap tBlocks := by
 have e0 := gBlocks_split R ht t
 rwa [upd_self R ht] at e0
theorem tBlocks_nodup {R : GRows} {i : Nat} {t : GTab} (hn : (gBlocks R).Nodup) (ht : R.tabs[i]? = some t) : (tBlocks t).Nodup := by
 rw [mem_split ht] at hn
 exact (nodup_mid hn).2

/-- A value of a row of a table is set in place. -/
theorem set_upd {R : GRows} {w : World} (h : RowsAt w R) (hn : (gBlocks R).Nodup) {i n : Nat} {t : GTab} {r : GRow} (ht : R.tabs[i]? = some t) (hs : Sorted t.rows) (hr : t.rows[n]? = some r)
  {b cap : Nat} (hcv : r.cv = .slice (some ⟨b, 0, none⟩) r.cols.length cap) (c : Nat) (x : Int) :
  Upd R w (R.mod.set i (t.mod.set r.key c x)) (w.setCell ⟨b, c, none⟩ (.int .i64 x)) := by
 have htn := tBlocks_nodup hn ht
 have hta := h.tabs t (List.mem_of_getElem? ht)
 obtain ⟨h1, h2⟩ := split_at hr
 let t' : GTab := { t with rows := t.rows.take n ++ r.set c x :: t.rows.drop (n + 1) }
 have eb : tBlocks t' = tBlocks t := by
  simp only [tBlocks, rlBlocks, t', List.flatMap_append, List.flatMap_cons, GRow.set]
  conv => rhs; rw [h1]
  simp only [List.flatMap_append, List.flatMap_cons]
 have hb2 : b ∈ rlBlocks t.lv t.rows := by
  simp only [rlBlocks, List.mem_append, List.mem_flatMap]
  exact .inr ⟨r, List.mem_of_getElem? hr, by simp [hcv, Value.ownBlock]⟩
 have hbm : b ∈ tBlocks t := List.mem_cons_of_mem _ hb2
 have hne : t.tb ≠ b := fun e => (List.nodup_cons.1 htn).1 (e ▸ hb2)
 have hrl : RL (w.setCell ⟨b, c, none⟩ (.int .i64 x)) t.lv t'.rows := by
  have hrl0 := hta.rl
  rw [h1] at hrl0
  refine hrl0.set ?_ hcv x
  rw [← h1]
  exact (List.nodup_cons.1 htn).2
 have key := h.upd hn ht (t' := t') rfl (Fr.store w b c (.int .i64 x)) (fun k hk => by rw [hk]; exact hbm)
  ⟨hta.blk.fr (Fr.store w b c _) (fun e => hne e), hrl⟩ (by rw [eb]; exact htn) (fun k hk => .inl (by rw [← eb]; exact hk))
 refine ⟨R.upd i t', rfl, key.1, key.2.1, key.2.2.1, (Fr.store w b c _).mono fun k _ hk => key.2.2.2 k hk, ?_⟩
 rw [GRows.upd_mod, ← set_mod hs hr]

set_option maxRecDepth 100000 in
set_option maxHeartbeats 400000 in
theorem set_any (R : GRows) (i k c x : Int) (w : World) (h : RowsAt w R) (hn : (gBlocks R).Nodup) (hg : Good R.mod) :
  Calls Tryz.prog 95 #[R.val, .int .i64 i, .int .i64 k, .int .i64 c, .int .i64 x] w (RetUpd R w (mset R.mod i k c x)) := by
 have H := Lib.hid h
 have Hn := Lib.hid hn
 have hl : R.tabs.length ≤ 1000000 := by have := hg.few; simp [GRows.mod] at this; omega
 have Hg := Lib.hid (hg.at i)
 have HS : Hid (mset R.mod i k c x = mset R.mod i k c x) := rfl
 conv at HS => arg 1; rhs; unfold mset
 clear h hg hn
 go_enter Tryz.func95, Tryz.ntmps95
 go_wp2_with fail
 refine (table_any R i _ H.out hl).mono ?_
 rintro e w1 ⟨t, rfl, ht, hf, hm, hin⟩
 rw [← hm] at Hg HS
 have Hin := Lib.hid hin
 clear hm hin
 have Ht := Lib.hid ht
 have Hf := Lib.hid hf
 have q0 := ht.blk.cell 0
 clear ht hf
 go_wp2_with fail
 refine (has_any _ _ _).mono ?_
 rintro e w' ⟨rfl, rfl⟩
 clear q0
 by_cases hc : 0 ≤ c ∧ c < (t.mod.1 : Int)
 ·have hc2 : c < (t.n : Int) := hc.2
  obtain ⟨hi0, hti⟩ : 0 ≤ i ∧ R.tabs[i.toNat]? = some t := by
   rcases Hin.out with h | ⟨_, h⟩
   ·exact h
   ·rw [h] at hc2; simp [noTab] at hc2; omega
  have Hti := Lib.hid hti
  rw [decide_eq_true hc.1, decide_eq_true hc2]
  have HS1 : Hid (mset R.mod i k c x = if (mget t.mod k).isSome then (R.mod.set i.toNat (t.mod.set k c.toNat x), true, 0) else (R.mod, false, 0)) := by
   have := HS.out
   rw [if_pos hc] at this
   exact this
  obtain ⟨c, rfl⟩ := Int.eq_ofNat_of_zero_le hc.1
  clear HS hc hti Hin hi0
  go_wp2_with fail
  refine (find_any t k _ Ht.out Hg.out.sorted' Hg.out.few').mono ?_
  rintro e w2 ⟨rfl, hf2⟩
  have Hf2 := Lib.hid (Hf.out.trans0 hf2)
  have Ht2 : Hid (TabAt w2 t) := Ht.out.fr hf2 fun _ _ h => h
  clear hf2
  by_cases hx : ∃ r ∈ t.rows, r.key = k
  ·obtain ⟨r, hr, hk⟩ := row_found Hg.out.sorted' hx
   have hlt := (List.getElem?_eq_some_iff.1 hr).1
   rcases Ht2.out.rl.shape with ⟨_, h2⟩ | ⟨b, cap, hlv, _⟩
   ·rw [h2] at hlt; simp at hlt
   have hrl := Ht2.out.rl
   rw [hlv] at hrl
   have q0 := Ht2.out.blk.cell 1
   rw [hlv] at q0
   have q1 := hrl.cv _ r hr
   have hcl := hrl.cols r (List.mem_of_getElem? hr)
   have hw : c < r.cols.length := by rw [Hg.out.width' r (List.mem_of_getElem? hr)]; omega
   obtain ⟨bc, capc, hcv, _⟩ := hcl.form (by omega)
   rw [hcv] at hcl q1
   have q2 := hcl.cell rfl c hw
   have q3 := hcl.free rfl c
   have Hcv := Lib.hid hcv
   have Hr := Lib.hid hr
   have Hk := Lib.hid hk
   have HM := Lib.hid (mget_found Hg.out.sorted' hr hk)
   have HR2 : Hid (RowsAt w2 R) := H.out.fr Hf2.out fun _ _ h => h
   rw [decide_eq_true hx]
   generalize lbK t.rows k = n at *
   generalize r.cols.getD c 0 = old at q2
   have hw2 : (c : Int) < (r.cols.length : Int) := by omega
   have hlt2 : (n : Int) < (t.rows.length : Int) := by omega
   clear hrl hcl hcv hr hlv hk hx
   go_wp2_with fail
   go_ret2
   have hu := set_upd HR2.out Hn.out Hti.out Hg.out.sorted' Hr.out Hcv.out c x
   rw [HS1.out, HM.out, ← Hk.out]
   exact ⟨rfl, Upd.after Hf2.out hu⟩
  ·have HM : Hid (mget t.mod k = none) := mget_none (by
    simp only [GTab.mod, List.mem_map]
    rintro ⟨_, ⟨r, hr, rfl⟩, hk⟩
    exact hx ⟨r, hr, hk⟩)
   rw [decide_eq_false hx]
   clear hx
   go_wp2_with fail
   go_ret2
   rw [HS1.out, HM.out]
   exact ⟨rfl, Upd.same H.out Hn.out Hf2.out⟩
 ·have hb : (decide (0 ≤ c) && decide (c < (t.n : Int))) = false := by
   rw [Bool.and_eq_false_iff]
   by_cases h0 : 0 ≤ c
   ·right; rw [decide_eq_false_iff_not]; exact fun h => hc ⟨h0, h⟩
   ·left; rw [decide_eq_false_iff_not]; exact h0
  rw [hb]
  have HS2 : Hid (mset R.mod i k c x = (R.mod, false, 2)) := by
   have := HS.out
   rw [if_neg hc] at this
   exact this
  clear HS hb hc
  go_wp2_with fail
  go_ret2
  rw [HS2.out]
  exact ⟨rfl, Upd.same H.out Hn.out Hf.out⟩

def sumTo (T : MTab) (c k : Nat) : Int := (T.2.take k).foldl (fun n r => IntKind.i64.wrap (n + r.2.getD c 0)) 0
def msum (T : MTab) (c : Int) : Int := if 0 ≤ c ∧ c < T.1 then sumTo T c.toNat T.2.length else 0
theorem sumTo_succ {t : GTab} {k : Nat} {r : GRow} (hr : t.rows[k]? = some r) (c : Nat) : sumTo t.mod c (k + 1) = wrap64 (sumTo t.mod c k + r.cols.getD c 0) := by
 unfold sumTo GTab.mod
 simp only
 rw [List.take_succ_eq_append_getElem (by simpa using (List.getElem?_eq_some_iff.1 hr).1), List.foldl_append]
 have : (t.rows.map fun r => (r.key, r.cols))[k]'(by simpa using (List.getElem?_eq_some_iff.1 hr).1) = (r.key, r.cols) := by
  simp [(List.getElem?_eq_some_iff.1 hr).2]
 rw [this]
 simp [IntKind.wrap_i64, wrap64]

set_option maxRecDepth 100000 in
set_option maxHeartbeats 400000 in
theorem sum_any (R : GRows) (i c : Int) (w : World) (h : RowsAt w R) (hg : Good R.mod) :
  Calls Tryz.prog 37 #[R.val, .int .i64 i, .int .i64 c] w (RetInt (msum (mtab R.mod i) c) w) := by
 have H := Lib.hid h
 have hl : R.tabs.length ≤ 1000000 := by have := hg.few; simp [GRows.mod] at this; omega
 have Hg := Lib.hid (hg.at i)
 clear h hg
 go_enter Tryz.func37, Tryz.ntmps37
 go_wp2_with fail
 refine (table_any R i _ H.out hl).mono ?_
 rintro e w1 ⟨t, rfl, ht, hf, hm, hin⟩
 rw [← hm] at Hg
 have Hm := Lib.hid hm
 clear hm hin
 have Ht := Lib.hid ht
 have Hf := Lib.hid hf
 have q0 := ht.blk.cell 0
 have q1 := ht.blk.cell 1
 clear ht hf
 go_wp2_with fail
 refine (has_any _ _ _).mono ?_
 rintro e w' ⟨rfl, rfl⟩
 clear q0
 by_cases hc : 0 ≤ c ∧ c < (t.mod.1 : Int)
 ·have hc2 : c < (t.n : Int) := hc.2
  have HS : Hid (msum t.mod c = sumTo t.mod c.toNat t.rows.length) := by
   have : msum t.mod c = sumTo t.mod c.toNat t.rows.length := by
    unfold msum
    rw [if_pos hc]
    simp [GTab.mod]
   exact this
  rw [decide_eq_true hc.1, decide_eq_true hc2]
  obtain ⟨c, rfl⟩ := Int.eq_ofNat_of_zero_le hc.1
  simp only [Int.toNat_natCast] at HS
  have hlen := Hg.out.few'
  obtain ⟨a0, cap, hlv⟩ := Ht.out.rl.shape2
  rw [hlv] at q1
  have Hlv := Lib.hid hlv
  clear hc hlv
  go_wp2_with fail
  go_loopw [8, 26] (fun vn vi wr => ∃ k : Nat, k ≤ t.rows.length ∧ vi = .int .i64 k ∧ vn = .int .i64 (sumTo t.mod c k) ∧ Fr w1 wr Nil)
   (fun _ vi _ => t.rows.length - (intOf vi).toNat)
  case atStart => exact ⟨0, by omega, rfl, rfl, Fr.refl _ _⟩
  case round =>
   obtain ⟨k, hk, rfl, rfl, hfr⟩ := hrel
   have Hfr := Lib.hid hfr
   clear hfr
   by_cases hlt : k < t.rows.length
   ·have hr := List.getElem?_eq_getElem hlt
    generalize t.rows[k] = r at hr
    have HT : TabAt wr t := Ht.out.fr Hfr.out fun _ _ h => h
    obtain ⟨b, capb, hlv, _⟩ : ∃ b cap, t.lv = .slice (some ⟨b, 0, none⟩) t.rows.length cap ∧ True := by
     rcases HT.rl.shape with ⟨_, h2⟩ | ⟨b, cap, h1, _⟩
     ·rw [h2] at hlt; simp at hlt
     ·exact ⟨b, cap, h1, trivial⟩
    rw [Hlv.out] at hlv
    simp only [Value.slice.injEq, true_and] at hlv
    obtain ⟨rfl, rfl⟩ := hlv
    have hrl := HT.rl
    rw [Hlv.out] at hrl
    have p0 := hrl.key _ r hr
    have p1 := hrl.cv _ r hr
    have hcl := hrl.cols r (List.mem_of_getElem? hr)
    have hw : c < r.cols.length := by rw [Hg.out.width' r (List.mem_of_getElem? hr)]; omega
    obtain ⟨bc, capc, hcv, _⟩ := hcl.form (by omega)
    rw [hcv] at hcl p1
    have p2 := fun o => ((Fr.refl wr Nil).alloc o).cell (hcl.cell rfl c hw) (fun h => h)
    have hw2 : (c : Int) < (r.cols.length : Int) := by omega
    have hlt2 : (k : Int) < (t.rows.length : Int) := by omega
    have HS2 := Lib.hid (sumTo_succ hr c)
    generalize r.cols.getD c 0 = old at *
    generalize sumTo t.mod c k = acc at *
    clear hrl hcl hcv hr HT
    go_wp2_with fail
    go_roundw
    case rel => exact ⟨k + 1, by omega, by go_num, by rw [HS2.out], Hfr.out.alloc _⟩
    case measure => simp [intOf]; omega
   ·go_wp2_with fail
    go_ret
    obtain rfl : k = t.rows.length := by omega
    exact ⟨by rw [← Hm.out, HS.out]; rfl, Hf.out.trans0 Hfr.out⟩
 ·have hb : (decide (0 ≤ c) && decide (c < (t.n : Int))) = false := by
   rw [Bool.and_eq_false_iff]
   by_cases h0 : 0 ≤ c
   ·right; rw [decide_eq_false_iff_not]; exact fun h => hc ⟨h0, h⟩
   ·left; rw [decide_eq_false_iff_not]; exact h0
  have HS : Hid (msum t.mod c = 0) := by
   unfold msum; exact if_neg hc
  rw [hb]
  clear hb hc
  go_wp2_with fail
  go_ret
  exact ⟨by rw [← Hm.out, HS.out]; rfl, Hf.out⟩
end Go.Proofs.YtgpekgnhbccnoaaGreat
