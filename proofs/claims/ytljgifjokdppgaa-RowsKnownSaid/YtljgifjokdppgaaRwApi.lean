/-
  The methods of the tables, as whoever uses them sees them: the tables M, in the blocks S.
  No condition but sizes.
-/
import Derived.Test.YtljgifjokdppgaaRwPure
namespace Go.Proofs.Ytljgifjokdppgaa
open Go Go.RowKit

/-- At rb lie tables that read as M; all that they are lies in S. -/
def Rws (w : World) (rb : Nat) (M : List MTab) (S : Nat → Prop) : Prop :=
  ∃ R : GRows, R.rb = rb ∧ RowsAt w R ∧ (gBlocks R).Nodup ∧ R.mod = M ∧ ∀ k, S k ↔ k ∈ gBlocks R
theorem Rws.fr {w w' : World} {rb : Nat} {M : List MTab} {S T : Nat → Prop} (h : Rws w rb M S) (hf : Fr w w' T) (hd : ∀ k, S k → ¬ T k) : Rws w' rb M S := by
  obtain ⟨R, h1, h2, h3, h4, h5⟩ := h
  exact ⟨R, h1, h2.fr hf fun k hk => hd k ((h5 k).2 hk), h3, h4, h5⟩
theorem Rws.fr0 {w w' : World} {rb : Nat} {M : List MTab} {S : Nat → Prop} (h : Rws w rb M S) (hf : Fr w w' Nil) : Rws w' rb M S := h.fr hf fun _ _ h => h
theorem Rws.lt {w : World} {rb : Nat} {M : List MTab} {S : Nat → Prop} (h : Rws w rb M S) : ∀ k, S k → k < w.heap.size := by
  obtain ⟨R, h1, h2, h3, h4, h5⟩ := h
  exact fun k hk => h2.lt k ((h5 k).1 hk)
def UpdS (w : World) (rb : Nat) (S : Nat → Prop) (M' : List MTab) (w' : World) : Prop :=
  ∃ S', Rws w' rb M' S' ∧ (∀ k, S' k → S k ∨ w.heap.size ≤ k) ∧ Fr w w' S
theorem Upd.updS {R : GRows} {w w' : World} {rb : Nat} {S : Nat → Prop} {M : List MTab} (h : Upd R w M w') (hrb : R.rb = rb) (hS : ∀ k, S k ↔ k ∈ gBlocks R) : UpdS w rb S M w' := by
  obtain ⟨R', h1, h2, h3, h4, h5, h6⟩ := h
  exact ⟨fun k => k ∈ gBlocks R', ⟨R', h1.trans hrb, h2, h3, h6, fun _ => Iff.rfl⟩, fun k hk => (h4 k hk).imp (hS k).2 id, h5.mono fun k _ hk => (hS k).2 hk⟩
theorem intsAt_bk {w : World} {b cap n : Nat} {e : TypeId} {xs : List Int} (h : Bk w b e (xs.map (Value.int .i64))) (hn : n = xs.length) : IntsAt w (.slice (some ⟨b, 0, none⟩) n cap) xs := by
  subst hn
  refine .inr ⟨_, cap, rfl, fun j u hu => ?_⟩
  rw [Addr.add_lit, Nat.zero_add, h.cell j]
  exact hu
abbrev rptr (rb : Nat) : Value := .pointer (some ⟨rb, 0, none⟩)

def ApiNew (cols : List Int) (w : World) (e : Ending) (w' : World) : Prop :=
  (colsOk cols ∧ ∃ rb S, e = .returned (.tuple #[rptr rb, .int .i64 0]) ∧ Rws w' rb (newMod cols) S ∧ (∀ k, S k → w.heap.size ≤ k) ∧ Fr w w' Nil) ∨
  (¬ colsOk cols ∧ e = .returned (.tuple #[.pointer none, .int .i64 2]) ∧ Fr w w' Nil)
theorem api_new (v : Value) (cols : List Int) (w : World) (hv : IntsAt w v cols) (hl : cols.length ≤ 9223372036854775807) :
    Calls Try.prog 10 #[v] w (ApiNew cols w) :=
  (new_any v cols w hv hl).mono fun e w' h => by
    rcases h with ⟨h1, R, rfl, h2, h3, h4⟩ | h
    · exact .inl ⟨h1, R.rb, fun k => k ∈ gBlocks R, rfl, ⟨R, rfl, h2.rows, h2.nodup, h3, fun _ => Iff.rfl⟩, h2.new, h4⟩
    · exact .inr h
theorem api_put {w : World} {rb : Nat} {M : List MTab} {S : Nat → Prop} (i k : Int) (v : Value) (xs : List Int) (h : Rws w rb M S) (hg : Good M) (hv : IntsAt w v xs) (hvl : xs.length ≤ 1000000) :
    Calls Try.prog 13 #[rptr rb, .int .i64 i, .int .i64 k, v] w fun e w' => e = .returned (.int .i64 (mput M i k xs).2) ∧ UpdS w rb S (mput M i k xs).1 w' := by
  obtain ⟨R, rfl, h2, h3, rfl, h5⟩ := h
  exact (put_any R i k v xs w h2 h3 hg hv hvl).mono fun e w' ⟨he, hu⟩ => ⟨he, hu.updS rfl h5⟩
theorem api_set {w : World} {rb : Nat} {M : List MTab} {S : Nat → Prop} (i k c x : Int) (h : Rws w rb M S) (hg : Good M) :
    Calls Try.prog 11 #[rptr rb, .int .i64 i, .int .i64 k, .int .i64 c, .int .i64 x] w fun e w' => e = .returned (.tuple #[.bool (mset M i k c x).2.1, .int .i64 (mset M i k c x).2.2]) ∧ UpdS w rb S (mset M i k c x).1 w' := by
  obtain ⟨R, rfl, h2, h3, rfl, h5⟩ := h
  exact (set_any R i k c x w h2 h3 hg).mono fun e w' ⟨he, hu⟩ => ⟨he, hu.updS rfl h5⟩
theorem api_del {w : World} {rb : Nat} {M : List MTab} {S : Nat → Prop} (i k : Int) (h : Rws w rb M S) (hg : Good M) :
    Calls Try.prog 12 #[rptr rb, .int .i64 i, .int .i64 k] w fun e w' => e = .returned (.tuple #[.bool (mdel M i k).2.1, .int .i64 (mdel M i k).2.2]) ∧ UpdS w rb S (mdel M i k).1 w' := by
  obtain ⟨R, rfl, h2, h3, rfl, h5⟩ := h
  exact (del_any R i k w h2 h3 hg).mono fun e w' ⟨he, hu⟩ => ⟨he, hu.updS rfl h5⟩
theorem api_get {w : World} {rb : Nat} {M : List MTab} {S : Nat → Prop} (i k : Int) (h : Rws w rb M S) (hg : Good M) :
    Calls Try.prog 15 #[rptr rb, .int .i64 i, .int .i64 k] w (GetRet (mtab M i) k w) := by
  obtain ⟨R, rfl, h2, h3, rfl, h5⟩ := h
  exact get_any R i k w h2 hg
theorem api_sum {w : World} {rb : Nat} {M : List MTab} {S : Nat → Prop} (i c : Int) (h : Rws w rb M S) (hg : Good M) :
    Calls Try.prog 17 #[rptr rb, .int .i64 i, .int .i64 c] w (RetInt (msum (mtab M i) c) w) := by
  obtain ⟨R, rfl, h2, h3, rfl, h5⟩ := h
  exact sum_any R i c w h2 hg
theorem api_all {w : World} {rb : Nat} {M : List MTab} {S : Nat → Prop} (i : Int) (h : Rws w rb M S) (hg : Good M) :
    Calls Try.prog 14 #[rptr rb, .int .i64 i] w (AllRet (mtab M i).2 w) := by
  obtain ⟨R, rfl, h2, h3, rfl, h5⟩ := h
  exact all_any R i w h2 hg
theorem Good.lenR {R : GRows} (hg : Good R.mod) : R.tabs.length ≤ 1000000 := by have := hg.few; simp [GRows.mod] at this; omega
theorem api_len {w : World} {rb : Nat} {M : List MTab} {S : Nat → Prop} (i : Int) (h : Rws w rb M S) (hg : Good M) :
    Calls Try.prog 16 #[rptr rb, .int .i64 i] w (RetInt (mtab M i).2.length w) := by
  obtain ⟨R, rfl, h2, h3, rfl, h5⟩ := h
  exact len_any R i w h2 hg.lenR
theorem api_cols {w : World} {rb : Nat} {M : List MTab} {S : Nat → Prop} (i : Int) (h : Rws w rb M S) (hg : Good M) :
    Calls Try.prog 27 #[rptr rb, .int .i64 i] w (RetInt (mtab M i).1 w) := by
  obtain ⟨R, rfl, h2, h3, rfl, h5⟩ := h
  exact cols_any R i w h2 hg.lenR
theorem api_tables {w : World} {rb : Nat} {M : List MTab} {S : Nat → Prop} (h : Rws w rb M S) (hg : Good M) :
    Calls Try.prog 26 #[rptr rb] w fun e w' => e = .returned (.int .i64 M.length) ∧ w = w' := by
  obtain ⟨R, rfl, h2, h3, rfl, h5⟩ := h
  have := tables_any R w h2 hg.lenR
  simpa [GRows.mod] using this
end Go.Proofs.Ytljgifjokdppgaa
