/-
  The memory that the law RowsKnown makes for its lists.
  No condition.
-/
import Derived.Test.YtljgifjokdppgaaRwCalls
import Derived.Deep.OwnRows
namespace Go.Proofs.Ytljgifjokdppgaa
open Go Go.RowKit

def callCells (c : CallD) : List Value := [.int .u8 c.kind, .int .i64 c.table, .int .i64 c.key, .int .i64 c.col, .int .i64 c.n, c.cv]
theorem callCells_get {l : List CallD} {i : Nat} {c : CallD} (h : l[i]? = some c) (j : Nat) (hj : j < 6) : (l.flatMap callCells)[i * 6 + j]? = (callCells c)[j]? := by
  induction l generalizing i with
  | nil => cases h
  | cons x l ih =>
    rw [List.flatMap_cons]
    have hx : (callCells x).length = 6 := rfl
    cases i with
    | zero =>
      cases h
      rw [List.getElem?_append_left (by rw [hx]; omega), Nat.zero_mul, Nat.zero_add]
    | succ i =>
      rw [List.getElem?_append_right (by rw [hx]; omega), hx, show (i + 1) * 6 + j - 6 = i * 6 + j by omega]
      exact ih h
theorem CallsAt.of_block {w : World} {b cap : Nat} {e : TypeId} {l : List CallD} (h : Bk w b e (l.flatMap callCells)) (hl : l.length ≤ 9223372036854775807) (hc : ∀ c ∈ l, IntsAt w c.cv c.cols ∧ (0 ≤ c.kind ∧ c.kind < 256) ∧ c.cols.length ≤ 9223372036854775807) : CallsAt w (.slice (some ⟨b, 0, none⟩) l.length cap) l := by
  refine ⟨hl, _, cap, rfl, .inr ⟨b, 0, rfl, fun i c hi => ?_⟩⟩
  obtain ⟨h1, h2, h3⟩ := hc c (List.mem_of_getElem? hi)
  rw [Nat.zero_add]
  have hg : ∀ j, j < 6 → w.cell? ⟨b, i * 6 + j, none⟩ = (callCells c)[j]? := fun j hj => (h.cell _).trans (callCells_get hi j hj)
  exact ⟨hg 0 (by omega), hg 1 (by omega), hg 2 (by omega), hg 3 (by omega), hg 4 (by omega), hg 5 (by omega), h1, h2, h3⟩
theorem CallsAt.take {w : World} {a : Option Addr} {n cap : Nat} {l : List CallD} (h : CallsAt w (.slice a n cap) l) (k cap' : Nat) (hk : k ≤ l.length) : CallsAt w (.slice a k cap') (l.take k) := by
  obtain ⟨hl, a', cap2, he, h⟩ := h
  cases he
  refine ⟨by rw [List.length_take]; omega, a, cap', by rw [List.length_take, Nat.min_eq_left hk], ?_⟩
  rcases h with rfl | ⟨b, off, rfl, h⟩
  · exact .inl (by simp)
  · exact .inr ⟨b, off, rfl, fun i c hc => h i c (by rw [List.getElem?_take] at hc; split at hc; exact hc; cases hc)⟩
theorem CallsAt.drop {w : World} {b off n cap : Nat} {l : List CallD} (h : CallsAt w (.slice (some ⟨b, off, none⟩) n cap) l) (k cap' : Nat) (hk : k ≤ l.length) : CallsAt w (.slice (some ⟨b, off + k * 6, none⟩) (n - k) cap') (l.drop k) := by
  obtain ⟨hl, a', cap2, he, h⟩ := h
  cases he
  refine ⟨by rw [List.length_drop]; omega, _, cap', by rw [List.length_drop], ?_⟩
  rcases h with rfl | ⟨b', off', he2, h⟩
  · exact .inl (by simp)
  · cases he2
    exact .inr ⟨b, off + k * 6, rfl, fun i c hc => by
      rw [List.getElem?_drop] at hc
      have := h (k + i) c hc
      rw [show off + k * 6 + i * 6 = off + (k + i) * 6 by omega]
      exact this⟩

def kw0 (w : World) : World := w
theorem kw0_size (w : World) : (kw0 w).heap.size = w.heap.size := rfl
theorem kw0_fr (w : World) : Fr w (kw0 w) Nil := Fr.refl _ _
def kw1 (w : World) : World := (kw0 w).alloc (Obj.cells #[Value.int .i64 1, .int .i64 2] 2)
theorem kw1_size (w : World) : (kw1 w).heap.size = w.heap.size + 1 := by rw [kw1, World.size_alloc, kw0_size]
theorem kw1_fr (w : World) : Fr w (kw1 w) Nil := (kw0_fr w).alloc _
theorem kw1_bk (w : World) : Bk (kw1 w) (w.heap.size) 2 [.int .i64 1, .int .i64 2] := by
  have h := Bk.new (kw0 w) 2 #[Value.int .i64 1, .int .i64 2]
  rw [kw0_size] at h
  exact h
def kw2 (w : World) : World := (kw1 w).alloc (Obj.cells #[Value.int .i64 9223372036854775807, .int .i64 1] 2)
theorem kw2_size (w : World) : (kw2 w).heap.size = w.heap.size + 1 + 1 := by rw [kw2, World.size_alloc, kw1_size]
theorem kw2_fr (w : World) : Fr w (kw2 w) Nil := (kw1_fr w).alloc _
theorem kw2_bk (w : World) : Bk (kw2 w) (w.heap.size + 1) 2 [.int .i64 9223372036854775807, .int .i64 1] := by
  have h := Bk.new (kw1 w) 2 #[Value.int .i64 9223372036854775807, .int .i64 1]
  rw [kw1_size] at h
  exact h
def kw3 (w : World) : World := (kw2 w).alloc (Obj.cells #[Value.int .i64 3, .int .i64 9223372036854775807] 2)
theorem kw3_size (w : World) : (kw3 w).heap.size = w.heap.size + 1 + 1 + 1 := by rw [kw3, World.size_alloc, kw2_size]
theorem kw3_fr (w : World) : Fr w (kw3 w) Nil := (kw2_fr w).alloc _
theorem kw3_bk (w : World) : Bk (kw3 w) (w.heap.size + 1 + 1) 2 [.int .i64 3, .int .i64 9223372036854775807] := by
  have h := Bk.new (kw2 w) 2 #[Value.int .i64 3, .int .i64 9223372036854775807]
  rw [kw2_size] at h
  exact h
def kw4 (w : World) : World := (kw3 w).alloc (Obj.cells #[Value.int .i64 3] 2)
theorem kw4_size (w : World) : (kw4 w).heap.size = w.heap.size + 1 + 1 + 1 + 1 := by rw [kw4, World.size_alloc, kw3_size]
theorem kw4_fr (w : World) : Fr w (kw4 w) Nil := (kw3_fr w).alloc _
theorem kw4_bk (w : World) : Bk (kw4 w) (w.heap.size + 1 + 1 + 1) 2 [.int .i64 3] := by
  have h := Bk.new (kw3 w) 2 #[Value.int .i64 3]
  rw [kw3_size] at h
  exact h
def kw5 (w : World) : World := (kw4 w).alloc (Obj.cells #[Value.int .i64 3, .int .i64 4] 2)
theorem kw5_size (w : World) : (kw5 w).heap.size = w.heap.size + 1 + 1 + 1 + 1 + 1 := by rw [kw5, World.size_alloc, kw4_size]
theorem kw5_fr (w : World) : Fr w (kw5 w) Nil := (kw4_fr w).alloc _
theorem kw5_bk (w : World) : Bk (kw5 w) (w.heap.size + 1 + 1 + 1 + 1) 2 [.int .i64 3, .int .i64 4] := by
  have h := Bk.new (kw4 w) 2 #[Value.int .i64 3, .int .i64 4]
  rw [kw4_size] at h
  exact h
def kw6 (w : World) : World := (kw5 w).alloc (Obj.cells #[Value.int .i64 3] 2)
theorem kw6_size (w : World) : (kw6 w).heap.size = w.heap.size + 1 + 1 + 1 + 1 + 1 + 1 := by rw [kw6, World.size_alloc, kw5_size]
theorem kw6_fr (w : World) : Fr w (kw6 w) Nil := (kw5_fr w).alloc _
theorem kw6_bk (w : World) : Bk (kw6 w) (w.heap.size + 1 + 1 + 1 + 1 + 1) 2 [.int .i64 3] := by
  have h := Bk.new (kw5 w) 2 #[Value.int .i64 3]
  rw [kw5_size] at h
  exact h
def kw7 (w : World) : World := (kw6 w).alloc (Obj.cells #[Value.int .u8 0, .int .i64 0, .int .i64 5, .int .i64 0, .int .i64 0, .slice (some ⟨w.heap.size, 0, none⟩) 2 2, .int .u8 1, .int .i64 0, .int .i64 (-9223372036854775808), .int .i64 0, .int .i64 0, .slice (some ⟨w.heap.size + 1, 0, none⟩) 2 2, .int .u8 2, .int .i64 0, .int .i64 5, .int .i64 0, .int .i64 0, .slice (some ⟨w.heap.size + 1 + 1, 0, none⟩) 2 2, .int .u8 3, .int .i64 1, .int .i64 5, .int .i64 0, .int .i64 0, .slice (some ⟨w.heap.size + 1 + 1 + 1, 0, none⟩) 1 1, .int .u8 0, .int .i64 1, .int .i64 5, .int .i64 0, .int .i64 0, .slice (some ⟨w.heap.size + 1 + 1 + 1 + 1, 0, none⟩) 2 2, .int .u8 0, .int .i64 2, .int .i64 5, .int .i64 0, .int .i64 0, .slice (some ⟨w.heap.size + 1 + 1 + 1 + 1 + 1, 0, none⟩) 1 1, .int .u8 0, .int .i64 (-1), .int .i64 5, .int .i64 0, .int .i64 0, .slice none 0 0, .int .u8 4, .int .i64 0, .int .i64 5, .int .i64 1, .int .i64 9, .slice none 0 0, .int .u8 4, .int .i64 0, .int .i64 5, .int .i64 2, .int .i64 9, .slice none 0 0, .int .u8 4, .int .i64 0, .int .i64 5, .int .i64 (-1), .int .i64 9, .slice none 0 0, .int .u8 4, .int .i64 0, .int .i64 6, .int .i64 0, .int .i64 9, .slice none 0 0, .int .u8 4, .int .i64 2, .int .i64 6, .int .i64 0, .int .i64 9, .slice none 0 0, .int .u8 6, .int .i64 0, .int .i64 0, .int .i64 0, .int .i64 0, .slice none 0 0, .int .u8 5, .int .i64 0, .int .i64 5, .int .i64 0, .int .i64 0, .slice none 0 0, .int .u8 5, .int .i64 0, .int .i64 5, .int .i64 0, .int .i64 0, .slice none 0 0, .int .u8 5, .int .i64 2, .int .i64 5, .int .i64 0, .int .i64 0, .slice none 0 0, .int .u8 7, .int .i64 0, .int .i64 (-9223372036854775808), .int .i64 0, .int .i64 0, .slice none 0 0] 32)
theorem kw7_size (w : World) : (kw7 w).heap.size = w.heap.size + 1 + 1 + 1 + 1 + 1 + 1 + 1 := by rw [kw7, World.size_alloc, kw6_size]
theorem kw7_fr (w : World) : Fr w (kw7 w) Nil := (kw6_fr w).alloc _
theorem kw7_bk (w : World) : Bk (kw7 w) (w.heap.size + 1 + 1 + 1 + 1 + 1 + 1) 32 [.int .u8 0, .int .i64 0, .int .i64 5, .int .i64 0, .int .i64 0, .slice (some ⟨w.heap.size, 0, none⟩) 2 2, .int .u8 1, .int .i64 0, .int .i64 (-9223372036854775808), .int .i64 0, .int .i64 0, .slice (some ⟨w.heap.size + 1, 0, none⟩) 2 2, .int .u8 2, .int .i64 0, .int .i64 5, .int .i64 0, .int .i64 0, .slice (some ⟨w.heap.size + 1 + 1, 0, none⟩) 2 2, .int .u8 3, .int .i64 1, .int .i64 5, .int .i64 0, .int .i64 0, .slice (some ⟨w.heap.size + 1 + 1 + 1, 0, none⟩) 1 1, .int .u8 0, .int .i64 1, .int .i64 5, .int .i64 0, .int .i64 0, .slice (some ⟨w.heap.size + 1 + 1 + 1 + 1, 0, none⟩) 2 2, .int .u8 0, .int .i64 2, .int .i64 5, .int .i64 0, .int .i64 0, .slice (some ⟨w.heap.size + 1 + 1 + 1 + 1 + 1, 0, none⟩) 1 1, .int .u8 0, .int .i64 (-1), .int .i64 5, .int .i64 0, .int .i64 0, .slice none 0 0, .int .u8 4, .int .i64 0, .int .i64 5, .int .i64 1, .int .i64 9, .slice none 0 0, .int .u8 4, .int .i64 0, .int .i64 5, .int .i64 2, .int .i64 9, .slice none 0 0, .int .u8 4, .int .i64 0, .int .i64 5, .int .i64 (-1), .int .i64 9, .slice none 0 0, .int .u8 4, .int .i64 0, .int .i64 6, .int .i64 0, .int .i64 9, .slice none 0 0, .int .u8 4, .int .i64 2, .int .i64 6, .int .i64 0, .int .i64 9, .slice none 0 0, .int .u8 6, .int .i64 0, .int .i64 0, .int .i64 0, .int .i64 0, .slice none 0 0, .int .u8 5, .int .i64 0, .int .i64 5, .int .i64 0, .int .i64 0, .slice none 0 0, .int .u8 5, .int .i64 0, .int .i64 5, .int .i64 0, .int .i64 0, .slice none 0 0, .int .u8 5, .int .i64 2, .int .i64 5, .int .i64 0, .int .i64 0, .slice none 0 0, .int .u8 7, .int .i64 0, .int .i64 (-9223372036854775808), .int .i64 0, .int .i64 0, .slice none 0 0] := by
  have h := Bk.new (kw6 w) 32 #[Value.int .u8 0, .int .i64 0, .int .i64 5, .int .i64 0, .int .i64 0, .slice (some ⟨w.heap.size, 0, none⟩) 2 2, .int .u8 1, .int .i64 0, .int .i64 (-9223372036854775808), .int .i64 0, .int .i64 0, .slice (some ⟨w.heap.size + 1, 0, none⟩) 2 2, .int .u8 2, .int .i64 0, .int .i64 5, .int .i64 0, .int .i64 0, .slice (some ⟨w.heap.size + 1 + 1, 0, none⟩) 2 2, .int .u8 3, .int .i64 1, .int .i64 5, .int .i64 0, .int .i64 0, .slice (some ⟨w.heap.size + 1 + 1 + 1, 0, none⟩) 1 1, .int .u8 0, .int .i64 1, .int .i64 5, .int .i64 0, .int .i64 0, .slice (some ⟨w.heap.size + 1 + 1 + 1 + 1, 0, none⟩) 2 2, .int .u8 0, .int .i64 2, .int .i64 5, .int .i64 0, .int .i64 0, .slice (some ⟨w.heap.size + 1 + 1 + 1 + 1 + 1, 0, none⟩) 1 1, .int .u8 0, .int .i64 (-1), .int .i64 5, .int .i64 0, .int .i64 0, .slice none 0 0, .int .u8 4, .int .i64 0, .int .i64 5, .int .i64 1, .int .i64 9, .slice none 0 0, .int .u8 4, .int .i64 0, .int .i64 5, .int .i64 2, .int .i64 9, .slice none 0 0, .int .u8 4, .int .i64 0, .int .i64 5, .int .i64 (-1), .int .i64 9, .slice none 0 0, .int .u8 4, .int .i64 0, .int .i64 6, .int .i64 0, .int .i64 9, .slice none 0 0, .int .u8 4, .int .i64 2, .int .i64 6, .int .i64 0, .int .i64 9, .slice none 0 0, .int .u8 6, .int .i64 0, .int .i64 0, .int .i64 0, .int .i64 0, .slice none 0 0, .int .u8 5, .int .i64 0, .int .i64 5, .int .i64 0, .int .i64 0, .slice none 0 0, .int .u8 5, .int .i64 0, .int .i64 5, .int .i64 0, .int .i64 0, .slice none 0 0, .int .u8 5, .int .i64 2, .int .i64 5, .int .i64 0, .int .i64 0, .slice none 0 0, .int .u8 7, .int .i64 0, .int .i64 (-9223372036854775808), .int .i64 0, .int .i64 0, .slice none 0 0]
  rw [kw6_size] at h
  exact h
def kw8 (w : World) : World := (kw7 w).alloc (Obj.cells #[Value.int .i64 2, .int .i64 1] 3)
theorem kw8_size (w : World) : (kw8 w).heap.size = w.heap.size + 1 + 1 + 1 + 1 + 1 + 1 + 1 + 1 := by rw [kw8, World.size_alloc, kw7_size]
theorem kw8_fr (w : World) : Fr w (kw8 w) Nil := (kw7_fr w).alloc _
theorem kw8_bk (w : World) : Bk (kw8 w) (w.heap.size + 1 + 1 + 1 + 1 + 1 + 1 + 1) 3 [.int .i64 2, .int .i64 1] := by
  have h := Bk.new (kw7 w) 3 #[Value.int .i64 2, .int .i64 1]
  rw [kw7_size] at h
  exact h
def kw9 (w : World) : World := (kw8 w).alloc (Obj.cells #[] 3)
theorem kw9_size (w : World) : (kw9 w).heap.size = w.heap.size + 1 + 1 + 1 + 1 + 1 + 1 + 1 + 1 + 1 := by rw [kw9, World.size_alloc, kw8_size]
theorem kw9_fr (w : World) : Fr w (kw9 w) Nil := (kw8_fr w).alloc _
theorem kw9_bk (w : World) : Bk (kw9 w) (w.heap.size + 1 + 1 + 1 + 1 + 1 + 1 + 1 + 1) 3 [] := by
  have h := Bk.new (kw8 w) 3 (#[] : Array Value)
  rw [kw8_size] at h
  exact h
def kw10 (w : World) : World := (kw9 w).alloc (Obj.cells #[Value.int .i64 0] 3)
theorem kw10_size (w : World) : (kw10 w).heap.size = w.heap.size + 1 + 1 + 1 + 1 + 1 + 1 + 1 + 1 + 1 + 1 := by rw [kw10, World.size_alloc, kw9_size]
theorem kw10_fr (w : World) : Fr w (kw10 w) Nil := (kw9_fr w).alloc _
theorem kw10_bk (w : World) : Bk (kw10 w) (w.heap.size + 1 + 1 + 1 + 1 + 1 + 1 + 1 + 1 + 1) 3 [.int .i64 0] := by
  have h := Bk.new (kw9 w) 3 #[Value.int .i64 0]
  rw [kw9_size] at h
  exact h
def kw11 (w : World) : World := (kw10 w).alloc (Obj.cells #[Value.int .i64 17] 3)
theorem kw11_size (w : World) : (kw11 w).heap.size = w.heap.size + 1 + 1 + 1 + 1 + 1 + 1 + 1 + 1 + 1 + 1 + 1 := by rw [kw11, World.size_alloc, kw10_size]
theorem kw11_fr (w : World) : Fr w (kw11 w) Nil := (kw10_fr w).alloc _
theorem kw11_bk (w : World) : Bk (kw11 w) (w.heap.size + 1 + 1 + 1 + 1 + 1 + 1 + 1 + 1 + 1 + 1) 3 [.int .i64 17] := by
  have h := Bk.new (kw10 w) 3 #[Value.int .i64 17]
  rw [kw10_size] at h
  exact h
def kw12 (w : World) : World := (kw11 w).alloc (Obj.cells #[Value.int .i64 16, .int .i64 1] 3)
theorem kw12_size (w : World) : (kw12 w).heap.size = w.heap.size + 1 + 1 + 1 + 1 + 1 + 1 + 1 + 1 + 1 + 1 + 1 + 1 := by rw [kw12, World.size_alloc, kw11_size]
theorem kw12_fr (w : World) : Fr w (kw12 w) Nil := (kw11_fr w).alloc _
theorem kw12_bk (w : World) : Bk (kw12 w) (w.heap.size + 1 + 1 + 1 + 1 + 1 + 1 + 1 + 1 + 1 + 1 + 1) 3 [.int .i64 16, .int .i64 1] := by
  have h := Bk.new (kw11 w) 3 #[Value.int .i64 16, .int .i64 1]
  rw [kw11_size] at h
  exact h
def kw13 (w : World) : World := (kw12 w).alloc (Obj.cells #[Value.int .i64 2] 3)
theorem kw13_size (w : World) : (kw13 w).heap.size = w.heap.size + 1 + 1 + 1 + 1 + 1 + 1 + 1 + 1 + 1 + 1 + 1 + 1 + 1 := by rw [kw13, World.size_alloc, kw12_size]
theorem kw13_fr (w : World) : Fr w (kw13 w) Nil := (kw12_fr w).alloc _
theorem kw13_bk (w : World) : Bk (kw13 w) (w.heap.size + 1 + 1 + 1 + 1 + 1 + 1 + 1 + 1 + 1 + 1 + 1 + 1) 3 [.int .i64 2] := by
  have h := Bk.new (kw12 w) 3 #[Value.int .i64 2]
  rw [kw12_size] at h
  exact h
def knownL (s : Nat) : List CallD :=
  [⟨0, 0, 5, 0, 0, .slice (some ⟨s, 0, none⟩) 2 2, [1, 2]⟩,
   ⟨1, 0, (-9223372036854775808), 0, 0, .slice (some ⟨s + 1, 0, none⟩) 2 2, [9223372036854775807, 1]⟩,
   ⟨2, 0, 5, 0, 0, .slice (some ⟨s + 1 + 1, 0, none⟩) 2 2, [3, 9223372036854775807]⟩,
   ⟨3, 1, 5, 0, 0, .slice (some ⟨s + 1 + 1 + 1, 0, none⟩) 1 1, [3]⟩,
   ⟨0, 1, 5, 0, 0, .slice (some ⟨s + 1 + 1 + 1 + 1, 0, none⟩) 2 2, [3, 4]⟩,
   ⟨0, 2, 5, 0, 0, .slice (some ⟨s + 1 + 1 + 1 + 1 + 1, 0, none⟩) 1 1, [3]⟩,
   ⟨0, (-1), 5, 0, 0, .slice none 0 0, []⟩,
   ⟨4, 0, 5, 1, 9, .slice none 0 0, []⟩,
   ⟨4, 0, 5, 2, 9, .slice none 0 0, []⟩,
   ⟨4, 0, 5, (-1), 9, .slice none 0 0, []⟩,
   ⟨4, 0, 6, 0, 9, .slice none 0 0, []⟩,
   ⟨4, 2, 6, 0, 9, .slice none 0 0, []⟩,
   ⟨6, 0, 0, 0, 0, .slice none 0 0, []⟩,
   ⟨5, 0, 5, 0, 0, .slice none 0 0, []⟩,
   ⟨5, 0, 5, 0, 0, .slice none 0 0, []⟩,
   ⟨5, 2, 5, 0, 0, .slice none 0 0, []⟩,
   ⟨7, 0, (-9223372036854775808), 0, 0, .slice none 0 0, []⟩]
theorem known_calls (w : World) : CallsAt (kw13 w) (.slice (some ⟨w.heap.size + 1 + 1 + 1 + 1 + 1 + 1, 0, none⟩) 17 17) (knownL w.heap.size) := by
  have hb : Bk (kw13 w) (w.heap.size + 1 + 1 + 1 + 1 + 1 + 1) 32 ((knownL w.heap.size).flatMap callCells) := (((((((kw7_bk w).alloc _).alloc _).alloc _).alloc _).alloc _).alloc _)
  refine CallsAt.of_block (l := knownL w.heap.size) hb (by show 17 ≤ _; omega) ?_
  have h0 : IntsAt (kw13 w) (.slice (some ⟨w.heap.size, 0, none⟩) 2 2) [1, 2] := intsAt_bk (b := w.heap.size) (e := 2) (((((((((((((kw1_bk w).alloc _).alloc _).alloc _).alloc _).alloc _).alloc _).alloc _).alloc _).alloc _).alloc _).alloc _).alloc _) rfl
  have h1 : IntsAt (kw13 w) (.slice (some ⟨w.heap.size + 1, 0, none⟩) 2 2) [9223372036854775807, 1] := intsAt_bk (b := w.heap.size + 1) (e := 2) ((((((((((((kw2_bk w).alloc _).alloc _).alloc _).alloc _).alloc _).alloc _).alloc _).alloc _).alloc _).alloc _).alloc _) rfl
  have h2 : IntsAt (kw13 w) (.slice (some ⟨w.heap.size + 1 + 1, 0, none⟩) 2 2) [3, 9223372036854775807] := intsAt_bk (b := w.heap.size + 1 + 1) (e := 2) (((((((((((kw3_bk w).alloc _).alloc _).alloc _).alloc _).alloc _).alloc _).alloc _).alloc _).alloc _).alloc _) rfl
  have h3 : IntsAt (kw13 w) (.slice (some ⟨w.heap.size + 1 + 1 + 1, 0, none⟩) 1 1) [3] := intsAt_bk (b := w.heap.size + 1 + 1 + 1) (e := 2) ((((((((((kw4_bk w).alloc _).alloc _).alloc _).alloc _).alloc _).alloc _).alloc _).alloc _).alloc _) rfl
  have h4 : IntsAt (kw13 w) (.slice (some ⟨w.heap.size + 1 + 1 + 1 + 1, 0, none⟩) 2 2) [3, 4] := intsAt_bk (b := w.heap.size + 1 + 1 + 1 + 1) (e := 2) (((((((((kw5_bk w).alloc _).alloc _).alloc _).alloc _).alloc _).alloc _).alloc _).alloc _) rfl
  have h5 : IntsAt (kw13 w) (.slice (some ⟨w.heap.size + 1 + 1 + 1 + 1 + 1, 0, none⟩) 1 1) [3] := intsAt_bk (b := w.heap.size + 1 + 1 + 1 + 1 + 1) (e := 2) ((((((((kw6_bk w).alloc _).alloc _).alloc _).alloc _).alloc _).alloc _).alloc _) rfl
  have hn : IntsAt (kw13 w) (.slice none 0 0) [] := .inl ⟨rfl, rfl⟩
  intro c hc
  simp only [knownL, List.mem_cons, List.not_mem_nil, or_false] at hc
  rcases hc with rfl | rfl | rfl | rfl | rfl | rfl | rfl | rfl | rfl | rfl | rfl | rfl | rfl | rfl | rfl | rfl | rfl
  · exact ⟨h0, (by decide : (0 : Int) ≤ 0 ∧ (0 : Int) < 256), by simp⟩
  · exact ⟨h1, (by decide : (0 : Int) ≤ 1 ∧ (1 : Int) < 256), by simp⟩
  · exact ⟨h2, (by decide : (0 : Int) ≤ 2 ∧ (2 : Int) < 256), by simp⟩
  · exact ⟨h3, (by decide : (0 : Int) ≤ 3 ∧ (3 : Int) < 256), by simp⟩
  · exact ⟨h4, (by decide : (0 : Int) ≤ 0 ∧ (0 : Int) < 256), by simp⟩
  · exact ⟨h5, (by decide : (0 : Int) ≤ 0 ∧ (0 : Int) < 256), by simp⟩
  · exact ⟨hn, (by decide : (0 : Int) ≤ 0 ∧ (0 : Int) < 256), by simp⟩
  · exact ⟨hn, (by decide : (0 : Int) ≤ 4 ∧ (4 : Int) < 256), by simp⟩
  · exact ⟨hn, (by decide : (0 : Int) ≤ 4 ∧ (4 : Int) < 256), by simp⟩
  · exact ⟨hn, (by decide : (0 : Int) ≤ 4 ∧ (4 : Int) < 256), by simp⟩
  · exact ⟨hn, (by decide : (0 : Int) ≤ 4 ∧ (4 : Int) < 256), by simp⟩
  · exact ⟨hn, (by decide : (0 : Int) ≤ 4 ∧ (4 : Int) < 256), by simp⟩
  · exact ⟨hn, (by decide : (0 : Int) ≤ 6 ∧ (6 : Int) < 256), by simp⟩
  · exact ⟨hn, (by decide : (0 : Int) ≤ 5 ∧ (5 : Int) < 256), by simp⟩
  · exact ⟨hn, (by decide : (0 : Int) ≤ 5 ∧ (5 : Int) < 256), by simp⟩
  · exact ⟨hn, (by decide : (0 : Int) ≤ 5 ∧ (5 : Int) < 256), by simp⟩
  · exact ⟨hn, (by decide : (0 : Int) ≤ 7 ∧ (7 : Int) < 256), by simp⟩
def knownC : List (List Int) := [[2, 1], [], [0], [17], [16, 1], [2], List.replicate 65 0]
theorem made_map (n : Nat) : (madeCells #[Value.int .i64 0] n).toList = (List.replicate n (0 : Int)).map (Value.int .i64) := by
  simp [madeCells, Nat.mod_one, List.map_const']
def KnownSix (W : World) (b0 b1 b2 b3 b4 b5 : Nat) : Prop := IntsAt W (.slice (some ⟨b0, 0, none⟩) 2 2) [2, 1] ∧ IntsAt W (.slice (some ⟨b1, 0, none⟩) 0 0) [] ∧ IntsAt W (.slice (some ⟨b2, 0, none⟩) 1 1) [0] ∧ IntsAt W (.slice (some ⟨b3, 0, none⟩) 1 1) [17] ∧ IntsAt W (.slice (some ⟨b4, 0, none⟩) 2 2) [16, 1] ∧ IntsAt W (.slice (some ⟨b5, 0, none⟩) 1 1) [2]
theorem known_six (w : World) : KnownSix (kw13 w) (w.heap.size + 1 + 1 + 1 + 1 + 1 + 1 + 1) (w.heap.size + 1 + 1 + 1 + 1 + 1 + 1 + 1 + 1) (w.heap.size + 1 + 1 + 1 + 1 + 1 + 1 + 1 + 1 + 1) (w.heap.size + 1 + 1 + 1 + 1 + 1 + 1 + 1 + 1 + 1 + 1) (w.heap.size + 1 + 1 + 1 + 1 + 1 + 1 + 1 + 1 + 1 + 1 + 1) (w.heap.size + 1 + 1 + 1 + 1 + 1 + 1 + 1 + 1 + 1 + 1 + 1 + 1) :=
  ⟨intsAt_bk (b := w.heap.size + 1 + 1 + 1 + 1 + 1 + 1 + 1) (e := 3) ((((((kw8_bk w).alloc _).alloc _).alloc _).alloc _).alloc _) rfl, intsAt_bk (b := w.heap.size + 1 + 1 + 1 + 1 + 1 + 1 + 1 + 1) (e := 3) (((((kw9_bk w).alloc _).alloc _).alloc _).alloc _) rfl, intsAt_bk (b := w.heap.size + 1 + 1 + 1 + 1 + 1 + 1 + 1 + 1 + 1) (e := 3) ((((kw10_bk w).alloc _).alloc _).alloc _) rfl, intsAt_bk (b := w.heap.size + 1 + 1 + 1 + 1 + 1 + 1 + 1 + 1 + 1 + 1) (e := 3) (((kw11_bk w).alloc _).alloc _) rfl, intsAt_bk (b := w.heap.size + 1 + 1 + 1 + 1 + 1 + 1 + 1 + 1 + 1 + 1 + 1) (e := 3) ((kw12_bk w).alloc _) rfl, intsAt_bk (b := w.heap.size + 1 + 1 + 1 + 1 + 1 + 1 + 1 + 1 + 1 + 1 + 1 + 1) (e := 3) (kw13_bk w) rfl⟩
theorem known_fin (W : World) (b0 b1 b2 b3 b4 b5 : Nat) (h : KnownSix W b0 b1 b2 b3 b4 b5) : ∃ W2, ((W.alloc (Obj.cells (madeCells #[Value.int .i64 0] 65) 3)).alloc (Obj.cells #[Value.slice (some ⟨b0, 0, none⟩) 2 2, Value.slice (some ⟨b1, 0, none⟩) 0 0, Value.slice (some ⟨b2, 0, none⟩) 1 1, Value.slice (some ⟨b3, 0, none⟩) 1 1, Value.slice (some ⟨b4, 0, none⟩) 2 2, Value.slice (some ⟨b5, 0, none⟩) 1 1, .slice (some ⟨W.heap.size, 0, none⟩) 65 65] 29)) = W2 ∧ Fr W W2 Nil ∧ ∀ j xs, knownC[j]? = some xs → ∃ a c, W2.cell? ⟨W.heap.size + 1, j, none⟩ = some (.slice a xs.length c) ∧ IntsAt W2 (.slice a xs.length c) xs := by
  refine ⟨_, rfl, ((Fr.refl W Nil).alloc _).alloc _, ?_⟩
  have hb := Bk.new (W.alloc (Obj.cells (madeCells #[Value.int .i64 0] 65) 3)) 29 #[Value.slice (some ⟨b0, 0, none⟩) 2 2, Value.slice (some ⟨b1, 0, none⟩) 0 0, Value.slice (some ⟨b2, 0, none⟩) 1 1, Value.slice (some ⟨b3, 0, none⟩) 1 1, Value.slice (some ⟨b4, 0, none⟩) 2 2, Value.slice (some ⟨b5, 0, none⟩) 1 1, .slice (some ⟨W.heap.size, 0, none⟩) 65 65]
  rw [World.size_alloc] at hb
  have hf : Fr W ((W.alloc (Obj.cells (madeCells #[Value.int .i64 0] 65) 3)).alloc (Obj.cells #[Value.slice (some ⟨b0, 0, none⟩) 2 2, Value.slice (some ⟨b1, 0, none⟩) 0 0, Value.slice (some ⟨b2, 0, none⟩) 1 1, Value.slice (some ⟨b3, 0, none⟩) 1 1, Value.slice (some ⟨b4, 0, none⟩) 2 2, Value.slice (some ⟨b5, 0, none⟩) 1 1, .slice (some ⟨W.heap.size, 0, none⟩) 65 65] 29)) Nil := ((Fr.refl W Nil).alloc _).alloc _
  obtain ⟨h0, h1, h2, h3, h4, h5⟩ := h
  have h6 : IntsAt ((W.alloc (Obj.cells (madeCells #[Value.int .i64 0] 65) 3)).alloc (Obj.cells #[Value.slice (some ⟨b0, 0, none⟩) 2 2, Value.slice (some ⟨b1, 0, none⟩) 0 0, Value.slice (some ⟨b2, 0, none⟩) 1 1, Value.slice (some ⟨b3, 0, none⟩) 1 1, Value.slice (some ⟨b4, 0, none⟩) 2 2, Value.slice (some ⟨b5, 0, none⟩) 1 1, .slice (some ⟨W.heap.size, 0, none⟩) 65 65] 29)) (.slice (some ⟨W.heap.size, 0, none⟩) 65 65) (List.replicate 65 0) := by
    have h := (Bk.new W 3 (madeCells #[Value.int .i64 0] 65)).alloc (Obj.cells #[Value.slice (some ⟨b0, 0, none⟩) 2 2, Value.slice (some ⟨b1, 0, none⟩) 0 0, Value.slice (some ⟨b2, 0, none⟩) 1 1, Value.slice (some ⟨b3, 0, none⟩) 1 1, Value.slice (some ⟨b4, 0, none⟩) 2 2, Value.slice (some ⟨b5, 0, none⟩) 1 1, .slice (some ⟨W.heap.size, 0, none⟩) 65 65] 29)
    rw [made_map] at h
    exact intsAt_bk (b := W.heap.size) (e := 3) h (by simp)
  intro j xs hj
  match j, hj with
  | 0, hj => cases hj; exact ⟨_, _, hb.cell 0, h0.fr hf fun _ _ h => h⟩
  | 1, hj => cases hj; exact ⟨_, _, hb.cell 1, h1.fr hf fun _ _ h => h⟩
  | 2, hj => cases hj; exact ⟨_, _, hb.cell 2, h2.fr hf fun _ _ h => h⟩
  | 3, hj => cases hj; exact ⟨_, _, hb.cell 3, h3.fr hf fun _ _ h => h⟩
  | 4, hj => cases hj; exact ⟨_, _, hb.cell 4, h4.fr hf fun _ _ h => h⟩
  | 5, hj => cases hj; exact ⟨_, _, hb.cell 5, h5.fr hf fun _ _ h => h⟩
  | 6, hj => cases hj; exact ⟨_, _, hb.cell 6, h6⟩
  | j + 7, hj => exact absurd (List.getElem?_eq_some_iff.1 hj).1 (by simp [knownC])
end Go.Proofs.Ytljgifjokdppgaa
