/-
  Touches, graphs and rows of bools as they lie in memory.
  No condition.
-/
import Derived.Test.YtkeiphmhckkniaaSl
import Derived.Test.YtkeiphmhckkniaaHsPure
import Derived.Test.YtkeiphmhckkniaaProg
namespace Go.Proofs.Ytkeiphmhckkniaa
open Go Go.RowKit

/-- A touch: who; the spot's table, whether it is a row, the key; was it written. -/
structure TouchD where
  who : Int
  tab : Int
  row : Bool
  key : Int
  wrote : Bool
  ok : (Lit.int .i64 who).wf = true
def TouchD.vals (t : TouchD) : List Value := [.int .i64 t.who, .int .i64 t.tab, .bool t.row, .int .i64 t.key, .bool t.wrote]
abbrev TouchD.val (t : TouchD) : Value := .agg #[.int .i64 t.who, .int .i64 t.tab, .bool t.row, .int .i64 t.key, .bool t.wrote]
def conf (a b : TouchD) : Bool := !(a.who == b.who) && (a.wrote || b.wrote) && (a.tab == b.tab) && (!a.row || !b.row || a.key == b.key)

/-- v reads as the touches l. -/
def TouchesAt (w : World) (v : Value) (l : List TouchD) : Prop := SlAt w 5 v l.length (l.flatMap TouchD.vals)
theorem vals_get {l : List TouchD} {i : Nat} {t : TouchD} (h : l[i]? = some t) (j : Nat) (hj : j < 5) : (l.flatMap TouchD.vals)[i * 5 + j]? = t.vals[j]? := by
  induction l generalizing i with
  | nil => simp at h
  | cons x l ih =>
    cases i with
    | zero =>
      simp at h; subst h
      rw [List.flatMap_cons, List.getElem?_append_left (by simp [TouchD.vals]; omega)]
      simp
    | succ i =>
      simp at h
      rw [List.flatMap_cons, List.getElem?_append_right (by simp [TouchD.vals]; omega)]
      rw [← ih h]
      congr 1
      simp [TouchD.vals]; omega
/-- One touch at an address. -/
structure TouchAt (w : World) (b o : Nat) (t : TouchD) : Prop where
  who : w.cell? ⟨b, o, none⟩ = some (.int .i64 t.who)
  tab : w.cell? ⟨b, o + 1, none⟩ = some (.int .i64 t.tab)
  row : w.cell? ⟨b, o + 2, none⟩ = some (.bool t.row)
  key : w.cell? ⟨b, o + 3, none⟩ = some (.int .i64 t.key)
  wrote : w.cell? ⟨b, o + 4, none⟩ = some (.bool t.wrote)
theorem TouchesAt.form {w : World} {v : Value} {l : List TouchD} (h : TouchesAt w v l) (hn : 0 < l.length) : ∃ b off cap, v = .slice (some ⟨b, off, none⟩) l.length cap ∧ ∀ i t, l[i]? = some t → TouchAt w b (off + i * 5) t := by
  obtain ⟨b, off, cap, rfl, hc⟩ := SlAt.form h (by decide) hn
  refine ⟨b, off, cap, rfl, fun i t ht => ?_⟩
  have key : ∀ j, j < 5 → ∀ u, t.vals[j]? = some u → w.cell? ⟨b, off + i * 5 + j, none⟩ = some u := by
    intro j hj u hu
    rw [Nat.add_assoc]
    exact hc _ u (by rw [vals_get ht j hj, hu])
  exact ⟨key 0 (by decide) _ rfl, key 1 (by decide) _ rfl, key 2 (by decide) _ rfl, key 3 (by decide) _ rfl, key 4 (by decide) _ rfl⟩

/-- v reads as the graph G: a row for each node. -/
def GraphAt (w : World) (v : Value) (G : List (List Int)) : Prop :=
  ∃ vs : List Value, SlAt w 1 v G.length vs ∧ ∀ (i : Nat) (xs : List Int), G[i]? = some xs → ∃ u, vs[i]? = some u ∧ IntsAt w u xs ∧ xs.length ≤ 1000000
theorem GraphAt.shape {w : World} {v : Value} {G : List (List Int)} (h : GraphAt w v G) : ∃ a cap, v = .slice a G.length cap := by
  obtain ⟨vs, h1, _⟩ := h
  exact h1.shape
theorem GraphAt.fr0 {w w' : World} {v : Value} {G : List (List Int)} (h : GraphAt w v G) (hf : Fr w w' Nil) : GraphAt w' v G := by
  obtain ⟨vs, h1, h2⟩ := h
  refine ⟨vs, h1.fr0 hf, fun i xs hi => ?_⟩
  obtain ⟨u, hu, hx, hl⟩ := h2 i xs hi
  exact ⟨u, hu, hx.fr hf fun _ _ h => h, hl⟩
theorem GraphAt.row_len {w : World} {v : Value} {G : List (List Int)} (h : GraphAt w v G) (i : Nat) : (G.getD i []).length ≤ 1000000 := by
  obtain ⟨vs, _, h2⟩ := h
  by_cases hi : i < G.length
  · obtain ⟨_, _, _, hl⟩ := h2 i _ (List.getElem?_eq_getElem hi)
    rw [List.getD_eq_getElem?_getD, List.getElem?_eq_getElem hi]
    exact hl
  · rw [List.getD_eq_getElem?_getD, List.getElem?_eq_none (by omega)]
    simp
theorem GraphAt.form {w : World} {v : Value} {G : List (List Int)} (h : GraphAt w v G) (hn : 0 < G.length) : ∃ b off cap, v = .slice (some ⟨b, off, none⟩) G.length cap ∧
    ∀ (i : Nat) (xs : List Int), G[i]? = some xs → ∃ u, w.cell? ⟨b, off + i, none⟩ = some u ∧ IntsAt w u xs ∧ xs.length ≤ 1000000 := by
  obtain ⟨vs, h1, h2⟩ := h
  obtain ⟨b, off, cap, rfl, hc⟩ := h1.form (by decide) hn
  refine ⟨b, off, cap, rfl, fun i xs hi => ?_⟩
  obtain ⟨u, hu, hx⟩ := h2 i xs hi
  exact ⟨u, hc i u hu, hx⟩

/-- v reads as the bools l. -/
def BoolsAt (w : World) (v : Value) (l : List Bool) : Prop := SlAt w 1 v l.length (l.map Value.bool)
theorem BoolsAt.form {w : World} {v : Value} {l : List Bool} (h : BoolsAt w v l) (hn : 0 < l.length) : ∃ b off cap, v = .slice (some ⟨b, off, none⟩) l.length cap ∧ ∀ i, i < l.length → w.cell? ⟨b, off + i, none⟩ = some (.bool (l.getD i false)) := by
  obtain ⟨b, off, cap, rfl, hc⟩ := SlAt.form h (by decide) hn
  refine ⟨b, off, cap, rfl, fun i hi => hc i _ ?_⟩
  simp [hi]
/-- Numbers of nodes, as they lie in memory. -/
def ints (l : List Nat) : List Int := l.map fun i : Nat => (i : Int)
theorem ints_len (l : List Nat) : (ints l).length = l.length := by simp [ints]
theorem ints_getD (l : List Nat) (i : Nat) : (ints l).getD i 0 = ((l.getD i 0 : Nat) : Int) := by
  simp only [ints, List.getD_eq_getElem?_getD, List.getElem?_map]
  cases l[i]? <;> rfl
theorem Try.sltInt : SlT Try.prog 27 3 1 8 := SlT.mk Try.underlying27 (z := .int .i64 0) (by kernel_rfl) rfl (by decide) (by decide)
theorem Try.sltBool : SlT Try.prog 51 4 1 1 := SlT.mk Try.underlying51 (z := .bool false) (by kernel_rfl) rfl (by decide) (by decide)
end Go.Proofs.Ytkeiphmhckkniaa
