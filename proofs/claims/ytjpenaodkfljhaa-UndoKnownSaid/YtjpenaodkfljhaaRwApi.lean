/-
  Plain laws of the tables as the document has them: what is well formed stays so.
  The methods of the tables, as whoever uses them sees them: the tables M, in the blocks S.
-/
import Derived.Test.YtjpenaodkfljhaaRwNew
namespace Go.Proofs.Ytjpenaodkfljhaa
open Go Go.RowKit

def Few (N : Nat) (M : List MTab) : Prop := ∀ T ∈ M, T.2.length ≤ N

theorem put_len (T : MTab) (k : Int) (cols : List Int) : (T.put k cols).2.length ≤ T.2.length + 1 := by
  show (T.2.filter (fun r => decide (r.1 < k)) ++ (k, cols) :: T.2.filter (fun r => decide (k < r.1))).length ≤ _
  rw [List.length_append, List.length_cons]
  have : ∀ l : List (Int × List Int), (l.filter (fun r => decide (r.1 < k))).length + (l.filter (fun r => decide (k < r.1))).length ≤ l.length := by
    intro l
    induction l with
    | nil => simp
    | cons x l ih =>
      by_cases h1 : x.1 < k
      · have h2 : ¬ k < x.1 := by omega
        simp only [List.filter_cons, h1, h2, decide_true, decide_false, if_true, List.length_cons]
        simp only [Bool.false_eq_true, if_false]
        omega
      · by_cases h2 : k < x.1
        · simp only [List.filter_cons, h1, h2, decide_true, decide_false, if_true, List.length_cons]
          simp only [Bool.false_eq_true, if_false]
          omega
        · simp only [List.filter_cons, h1, h2, decide_false, List.length_cons]
          simp only [Bool.false_eq_true, if_false]
          omega
  have := this T.2
  omega
theorem GoodT.put {T : MTab} (h : GoodT T) (k : Int) (cols : List Int) (hc : cols.length = T.1) (hN : T.2.length < 1000000) : GoodT (T.put k cols) := by
  refine ⟨?_, ?_, h.le, ?_⟩
  · show List.Pairwise _ (T.2.filter (fun r => decide (r.1 < k)) ++ (k, cols) :: T.2.filter (fun r => decide (k < r.1)))
    rw [List.pairwise_append, List.pairwise_cons]
    refine ⟨h.sorted.filter _, ⟨fun r hr => by simpa using (List.mem_filter.1 hr).2, h.sorted.filter _⟩, fun a ha b hb => ?_⟩
    have ha' : a.1 < k := by simpa using (List.mem_filter.1 ha).2
    rw [List.mem_cons] at hb
    rcases hb with rfl | hb
    · exact ha'
    · have : k < b.1 := by simpa using (List.mem_filter.1 hb).2
      omega
  · intro r hr
    have hr' : r ∈ T.2.filter (fun r => decide (r.1 < k)) ++ (k, cols) :: T.2.filter (fun r => decide (k < r.1)) := hr
    simp only [List.mem_append, List.mem_cons, List.mem_filter] at hr'
    rcases hr' with hr | rfl | hr
    · exact h.width r hr.1
    · exact hc
    · exact h.width r hr.1
  · have := put_len T k cols; omega
theorem GoodT.set {T : MTab} (h : GoodT T) (k : Int) (c : Nat) (x : Int) : GoodT (T.set k c x) := by
  have hk : ∀ r : Int × List Int, (if r.1 = k then (r.1, r.2.set c x) else r).1 = r.1 := fun r => by split <;> rfl
  refine ⟨?_, ?_, h.le, ?_⟩
  · show List.Pairwise _ (T.2.map _)
    rw [List.pairwise_map]
    refine h.sorted.imp fun {a b} hab => ?_
    rw [hk, hk]; exact hab
  · intro r hr
    have hr' : r ∈ T.2.map (fun r => if r.1 = k then (r.1, r.2.set c x) else r) := hr
    rw [List.mem_map] at hr'
    obtain ⟨y, hy, rfl⟩ := hr'
    have := h.width y hy
    show (if y.1 = k then (y.1, y.2.set c x) else y).2.length = T.1
    split
    · simp [this]
    · exact this
  · show (T.2.map _).length ≤ _
    rw [List.length_map]; exact h.few
theorem GoodT.del {T : MTab} (h : GoodT T) (k : Int) : GoodT (T.del k) := by
  refine ⟨h.sorted.filter _, fun r hr => h.width r (List.mem_filter.1 hr).1, h.le, ?_⟩
  have := List.length_filter_le (fun r : Int × List Int => decide (r.1 ≠ k)) T.2
  have h2 := h.few
  show (T.2.filter (fun r => decide (r.1 ≠ k))).length ≤ _
  omega
theorem mem_set_cases {α : Type} {l : List α} {i : Nat} {x y : α} (h : y ∈ l.set i x) : y ∈ l ∨ y = x := by
  rcases List.mem_or_eq_of_mem_set h with h | h
  · exact .inl h
  · exact .inr h
theorem mtab_mem {M : List MTab} {i : Int} (h : (mtab M i).1 ≠ 0) : mtab M i ∈ M := by
  unfold mtab at *
  split at h
  · rename_i h0
    rw [if_pos h0]
    cases hi : M[i.toNat]? with
    | none => rw [hi] at h; exact absurd rfl h
    | some T => exact List.mem_of_getElem? hi
  · exact absurd rfl h
theorem Good.upd {M : List MTab} (h : Good M) {i : Nat} {T : MTab} (hT : GoodT T) (h1 : 1 ≤ T.1) : Good (M.set i T) :=
  ⟨fun x hx => by
    rcases mem_set_cases hx with hx | rfl
    · exact h.tabs x hx
    · exact ⟨hT, h1⟩, by rw [List.length_set]; exact h.few⟩
theorem good_put {M : List MTab} {N : Nat} (h : Good M) (hf : Few N M) (hN : N < 1000000) (i k : Int) (cols : List Int) : Good (mput M i k cols).1 ∧ Few (N + 1) (mput M i k cols).1 := by
  unfold mput
  split
  · exact ⟨h, fun T hT => Nat.le_succ_of_le (hf T hT)⟩
  · rename_i hc
    rw [not_or] at hc
    have hm := mtab_mem hc.1
    have hl := hf _ hm
    refine ⟨h.upd ((h.tabs _ hm).1.put k cols (Decidable.not_not.1 hc.2) (by omega)) (h.tabs _ hm).2, fun T hT => ?_⟩
    rcases mem_set_cases hT with hT | rfl
    · exact Nat.le_succ_of_le (hf T hT)
    · have := put_len (mtab M i) k cols; omega
theorem good_set {M : List MTab} {N : Nat} (h : Good M) (hf : Few N M) (i k c x : Int) : Good (mset M i k c x).1 ∧ Few N (mset M i k c x).1 := by
  unfold mset
  split
  · rename_i hc
    split
    · have hm : mtab M i ∈ M := mtab_mem (by omega)
      refine ⟨h.upd ((h.tabs _ hm).1.set k _ x) (h.tabs _ hm).2, fun T hT => ?_⟩
      rcases mem_set_cases hT with hT | rfl
      · exact hf T hT
      · have := hf _ hm
        simpa [MTab.set] using this
    · exact ⟨h, hf⟩
  · exact ⟨h, hf⟩
theorem good_del {M : List MTab} {N : Nat} (h : Good M) (hf : Few N M) (i k : Int) : Good (mdel M i k).1 ∧ Few N (mdel M i k).1 := by
  unfold mdel
  split
  · exact ⟨h, hf⟩
  · rename_i hc
    split
    · have hm : mtab M i ∈ M := mtab_mem hc
      refine ⟨h.upd ((h.tabs _ hm).1.del k) (h.tabs _ hm).2, fun T hT => ?_⟩
      rcases mem_set_cases hT with hT | rfl
      · exact hf T hT
      · have h1 := hf _ hm
        have h2 := List.length_filter_le (fun r : Int × List Int => decide (r.1 ≠ k)) (mtab M i).2
        show ((mtab M i).2.filter (fun r => decide (r.1 ≠ k))).length ≤ N
        omega
    · exact ⟨h, hf⟩
theorem good_new {cols : List Int} (h : colsOk cols) : Good (newMod cols) ∧ Few 0 (newMod cols) := by
  refine ⟨⟨fun T hT => ?_, by simpa [newMod] using h.1⟩, fun T hT => ?_⟩
  · simp only [newMod, List.mem_map] at hT
    obtain ⟨n, hn, rfl⟩ := hT
    have := h.2 n hn
    refine ⟨⟨List.Pairwise.nil, fun r hr => (by cases hr), ?_, by simp⟩, ?_⟩ <;> show _ ≤ _ <;> simp only <;> omega
  · simp only [newMod, List.mem_map] at hT
    obtain ⟨n, hn, rfl⟩ := hT
    exact Nat.le_refl _
end Go.Proofs.Ytjpenaodkfljhaa
namespace Go.Proofs.Ytjpenaodkfljhaa
open Go Go.RowKit

/-- At rb lie tables that read as M; all that they are lies in S. -/
def Rws (w : World) (rb : Nat) (M : List MTab) (S : Nat → Prop) : Prop :=
  ∃ R : GRows, R.rb = rb ∧ RowsAt w R ∧ (gBlocks R).Nodup ∧ R.mod = M ∧ ∀ k, S k ↔ k ∈ gBlocks R
theorem Rws.fr {w w' : World} {rb : Nat} {M : List MTab} {S T : Nat → Prop} (h : Rws w rb M S) (hf : Fr w w' T) (hd : ∀ k, S k → ¬ T k) : Rws w' rb M S := by
  obtain ⟨R, h1, h2, h3, h4, h5⟩ := h
  exact ⟨R, h1, h2.fr hf fun k hk => hd k ((h5 k).2 hk), h3, h4, h5⟩
theorem Rws.fr0 {w w' : World} {rb : Nat} {M : List MTab} {S : Nat → Prop} (h : Rws w rb M S) (hf : Fr w w' Nil) : Rws w' rb M S := h.fr hf fun _ _ h => h
theorem Rws.lt {w : World} {rb : Nat} {M : List MTab} {S : Nat → Prop} (h : Rws w rb M S) : ∀ k, S k → k < w.heap.size := by
  obtain ⟨R, h1, h2, h3, h4, h5⟩ := h
  exact fun k hk => h2.lt k ((h5 k).1 hk)
def UpdS (w : World) (rb : Nat) (S : Nat → Prop) (M' : List MTab) (w' : World) : Prop :=
  ∃ S', Rws w' rb M' S' ∧ (∀ k, S' k → S k ∨ w.heap.size ≤ k) ∧ Fr w w' S
theorem Upd.updS {R : GRows} {w w' : World} {rb : Nat} {S : Nat → Prop} {M : List MTab} (h : Upd R w M w') (hrb : R.rb = rb) (hS : ∀ k, S k ↔ k ∈ gBlocks R) : UpdS w rb S M w' := by
  obtain ⟨R', h1, h2, h3, h4, h5, h6⟩ := h
  exact ⟨fun k => k ∈ gBlocks R', ⟨R', h1.trans hrb, h2, h3, h6, fun _ => Iff.rfl⟩, fun k hk => (h4 k hk).imp (hS k).2 id, h5.mono fun k _ hk => (hS k).2 hk⟩
theorem intsAt_bk {w : World} {b cap n : Nat} {e : TypeId} {xs : List Int} (h : Bk w b e (xs.map (Value.int .i64))) (hn : n = xs.length) : IntsAt w (.slice (some ⟨b, 0, none⟩) n cap) xs := by
  subst hn
  refine .inr ⟨_, cap, rfl, fun j u hu => ?_⟩
  rw [Addr.add_lit, Nat.zero_add, h.cell j]
  exact hu
abbrev rptr (rb : Nat) : Value := .pointer (some ⟨rb, 0, none⟩)

def ApiNew (cols : List Int) (w : World) (e : Ending) (w' : World) : Prop :=
  (colsOk cols ∧ ∃ rb S, e = .returned (.tuple #[rptr rb, .int .i64 0]) ∧ Rws w' rb (newMod cols) S ∧ (∀ k, S k → w.heap.size ≤ k) ∧ Fr w w' Nil) ∨
  (¬ colsOk cols ∧ e = .returned (.tuple #[.pointer none, .int .i64 2]) ∧ Fr w w' Nil)
theorem api_new (v : Value) (cols : List Int) (w : World) (hv : IntsAt w v cols) (hl : cols.length ≤ 9223372036854775807) :
    Calls Try.prog 40 #[v] w (ApiNew cols w) :=
  (new_any v cols w hv hl).mono fun e w' h => by
    rcases h with ⟨h1, R, rfl, h2, h3, h4⟩ | h
    · exact .inl ⟨h1, R.rb, fun k => k ∈ gBlocks R, rfl, ⟨R, rfl, h2.rows, h2.nodup, h3, fun _ => Iff.rfl⟩, h2.new, h4⟩
    · exact .inr h
theorem api_put {w : World} {rb : Nat} {M : List MTab} {S : Nat → Prop} (i k : Int) (v : Value) (xs : List Int) (h : Rws w rb M S) (hg : Good M) (hv : IntsAt w v xs) (hvl : xs.length ≤ 1000000) :
    Calls Try.prog 15 #[rptr rb, .int .i64 i, .int .i64 k, v] w fun e w' => e = .returned (.int .i64 (mput M i k xs).2) ∧ UpdS w rb S (mput M i k xs).1 w' := by
  obtain ⟨R, rfl, h2, h3, rfl, h5⟩ := h
  exact (put_any R i k v xs w h2 h3 hg hv hvl).mono fun e w' ⟨he, hu⟩ => ⟨he, hu.updS rfl h5⟩
theorem api_set {w : World} {rb : Nat} {M : List MTab} {S : Nat → Prop} (i k c x : Int) (h : Rws w rb M S) (hg : Good M) :
    Calls Try.prog 98 #[rptr rb, .int .i64 i, .int .i64 k, .int .i64 c, .int .i64 x] w fun e w' => e = .returned (.tuple #[.bool (mset M i k c x).2.1, .int .i64 (mset M i k c x).2.2]) ∧ UpdS w rb S (mset M i k c x).1 w' := by
  obtain ⟨R, rfl, h2, h3, rfl, h5⟩ := h
  exact (set_any R i k c x w h2 h3 hg).mono fun e w' ⟨he, hu⟩ => ⟨he, hu.updS rfl h5⟩
theorem api_del {w : World} {rb : Nat} {M : List MTab} {S : Nat → Prop} (i k : Int) (h : Rws w rb M S) (hg : Good M) :
    Calls Try.prog 33 #[rptr rb, .int .i64 i, .int .i64 k] w fun e w' => e = .returned (.tuple #[.bool (mdel M i k).2.1, .int .i64 (mdel M i k).2.2]) ∧ UpdS w rb S (mdel M i k).1 w' := by
  obtain ⟨R, rfl, h2, h3, rfl, h5⟩ := h
  exact (del_any R i k w h2 h3 hg).mono fun e w' ⟨he, hu⟩ => ⟨he, hu.updS rfl h5⟩
theorem api_get {w : World} {rb : Nat} {M : List MTab} {S : Nat → Prop} (i k : Int) (h : Rws w rb M S) (hg : Good M) :
    Calls Try.prog 97 #[rptr rb, .int .i64 i, .int .i64 k] w (GetRet (mtab M i) k w) := by
  obtain ⟨R, rfl, h2, h3, rfl, h5⟩ := h
  exact get_any R i k w h2 hg
theorem api_sum {w : World} {rb : Nat} {M : List MTab} {S : Nat → Prop} (i c : Int) (h : Rws w rb M S) (hg : Good M) :
    Calls Try.prog 41 #[rptr rb, .int .i64 i, .int .i64 c] w (RetInt (msum (mtab M i) c) w) := by
  obtain ⟨R, rfl, h2, h3, rfl, h5⟩ := h
  exact sum_any R i c w h2 hg
theorem api_all {w : World} {rb : Nat} {M : List MTab} {S : Nat → Prop} (i : Int) (h : Rws w rb M S) (hg : Good M) :
    Calls Try.prog 47 #[rptr rb, .int .i64 i] w (AllRet (mtab M i).2 w) := by
  obtain ⟨R, rfl, h2, h3, rfl, h5⟩ := h
  exact all_any R i w h2 hg
theorem Good.lenR {R : GRows} (hg : Good R.mod) : R.tabs.length ≤ 1000000 := by have := hg.few; simp [GRows.mod] at this; omega
theorem api_len {w : World} {rb : Nat} {M : List MTab} {S : Nat → Prop} (i : Int) (h : Rws w rb M S) (hg : Good M) :
    Calls Try.prog 68 #[rptr rb, .int .i64 i] w (RetInt (mtab M i).2.length w) := by
  obtain ⟨R, rfl, h2, h3, rfl, h5⟩ := h
  exact len_any R i w h2 hg.lenR
theorem api_cols {w : World} {rb : Nat} {M : List MTab} {S : Nat → Prop} (i : Int) (h : Rws w rb M S) (hg : Good M) :
    Calls Try.prog 76 #[rptr rb, .int .i64 i] w (RetInt (mtab M i).1 w) := by
  obtain ⟨R, rfl, h2, h3, rfl, h5⟩ := h
  exact cols_any R i w h2 hg.lenR
theorem api_tables {w : World} {rb : Nat} {M : List MTab} {S : Nat → Prop} (h : Rws w rb M S) (hg : Good M) :
    Calls Try.prog 90 #[rptr rb] w fun e w' => e = .returned (.int .i64 M.length) ∧ w = w' := by
  obtain ⟨R, rfl, h2, h3, rfl, h5⟩ := h
  have := tables_any R w h2 hg.lenR
  simpa [GRows.mod] using this
end Go.Proofs.Ytjpenaodkfljhaa
