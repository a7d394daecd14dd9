/-
  Who finished: rows of integers without doubles. No walk.
  No condition.
-/
import Derived.Test.YtegejcmihojhbaaHgAns
namespace Go.Proofs.Ytegejcmihojhbaa
open Go

theorem sl64 : SlT Try.prog 22 2 1 8 := SlT.mk (z := .int .i64 0) Try.underlying22 (by kernel_rfl) (by rfl) (by decide) (by decide)
/-- Rising, each once. -/
def Inc (l : List Int) : Prop := l.Pairwise (· < ·)
theorem inc_ext : ∀ {a b : List Int}, Inc a → Inc b → (∀ y, y ∈ a ↔ y ∈ b) → a = b
  | [], b, _, _, h => (List.eq_nil_iff_forall_not_mem.2 fun y hy => by have := (h y).2 hy; cases this).symm
  | x :: a, [], _, _, h => by have := (h x).1 (by simp); cases this
  | x :: a, y :: b, ha, hb, h => by
    obtain ⟨a1, a2⟩ := List.pairwise_cons.1 ha
    obtain ⟨b1, b2⟩ := List.pairwise_cons.1 hb
    have hxy : x = y := by
      rcases List.mem_cons.1 ((h x).1 (by simp)) with e | h1
      · exact e
      · rcases List.mem_cons.1 ((h y).2 (by simp)) with e | h2
        · exact e.symm
        · have := b1 x h1; have := a1 y h2; omega
    subst hxy
    rw [inc_ext a2 b2 fun z => ?_]
    constructor
    · intro hz
      rcases List.mem_cons.1 ((h z).1 (by simp [hz])) with e | h1
      · have := a1 z hz; omega
      · exact h1
    · intro hz
      rcases List.mem_cons.1 ((h z).2 (by simp [hz])) with e | h1
      · have := b1 z hz; omega
      · exact h1

/-- All that finished, as they were answered. -/
def okWho (l : List AnsD) : List Int := (l.filter fun a => a.code == 0).map AnsD.who
theorem okWho_nil : okWho [] = [] := rfl
theorem okWho_succ {l : List AnsD} {i : Nat} {a : AnsD} (h : l[i]? = some a) : okWho (l.take (i + 1)) = if a.code == 0 then okWho (l.take i) ++ [a.who] else okWho (l.take i) := by
  unfold okWho
  rw [List.take_add_one, h]
  simp only [Option.toList_some, List.filter_append, List.map_append]
  cases hc : (a.code == 0)
  · rw [List.filter_cons_of_neg (by simp only [hc]; simp)]; simp
  · rw [List.filter_cons_of_pos (by simp only [hc])]; simp
theorem okWho_len (l : List AnsD) : (okWho l).length ≤ l.length := by
  unfold okWho
  rw [List.length_map]
  exact List.length_filter_le _ _
theorem okWho_wf (l : List AnsD) : ∀ x ∈ okWho l, (Lit.int .i64 x).wf = true := by
  intro x hx
  obtain ⟨a, _, rfl⟩ := List.mem_map.1 hx
  exact a.ok

/-- The row that the document builds, behind the first i answers. -/
def FinR (l : List AnsD) (i : Nat) (out : List Int) : Prop := Inc out ∧ (∀ y, y ∈ out ↔ y ∈ okWho (l.take i)) ∧ out.length ≤ i
theorem FinR.zero (l : List AnsD) : FinR l 0 [] := ⟨List.Pairwise.nil, fun y => by simp [okWho], Nat.le_refl _⟩
theorem FinR.skip {l : List AnsD} {i : Nat} {out : List Int} {a : AnsD} (h : FinR l i out) (ha : l[i]? = some a) (hc : (a.code == 0) = false) : FinR l (i + 1) out := by
  refine ⟨h.1, fun y => ?_, by have := h.2.2; omega⟩
  rw [okWho_succ ha, hc]
  exact h.2.1 y
theorem FinR.dup {l : List AnsD} {i : Nat} {out : List Int} {a : AnsD} (h : FinR l i out) (ha : l[i]? = some a) (hc : (a.code == 0) = true) (hm : a.who ∈ out) : FinR l (i + 1) out := by
  refine ⟨h.1, fun y => ?_, by have := h.2.2; omega⟩
  rw [okWho_succ ha, hc, if_pos rfl, List.mem_append, ← h.2.1 y, List.mem_singleton]
  constructor
  · exact .inl
  · rintro (h | rfl)
    · exact h
    · exact hm
/-- All from place k on lies behind x. -/
def Gt (out : List Int) (k : Nat) (x : Int) : Prop := ∀ y ∈ out.drop k, x < y
theorem Gt.full (out : List Int) (x : Int) : Gt out out.length x := by unfold Gt; simp
theorem Gt.back {out : List Int} {k : Nat} {x y : Int} (h : Gt out k x) (hk : 0 < k) (hy : out[k - 1]? = some y) (hlt : x < y) : Gt out (k - 1) x := by
  have hl := (List.getElem?_eq_some_iff.1 hy).1
  intro z hz
  rw [List.drop_eq_getElem_cons hl, show k - 1 + 1 = k by omega, List.mem_cons] at hz
  rcases hz with rfl | hz
  · have := (List.getElem?_eq_some_iff.1 hy).2; rw [this]; exact hlt
  · exact h z hz
theorem FinR.ins {l : List AnsD} {i k : Nat} {out : List Int} {a : AnsD} (h : FinR l i out) (ha : l[i]? = some a) (hc : (a.code == 0) = true) (hg : Gt out k a.who) (hk : k = 0 ∨ ∃ y, out[k - 1]? = some y ∧ y < a.who) : FinR l (i + 1) (out.take k ++ [a.who] ++ out.drop k) := by
  have ht : ∀ y ∈ out.take k, y < a.who := by
    intro y hy
    rcases hk with rfl | ⟨z, hz, hlt⟩
    · simp at hy
    · obtain ⟨j, hj⟩ := List.getElem?_of_mem hy
      rw [List.getElem?_take] at hj
      split at hj
      · have hl := (List.getElem?_eq_some_iff.1 hz).1
        obtain ⟨hjl, rfl⟩ := List.getElem?_eq_some_iff.1 hj
        obtain ⟨_, rfl⟩ := List.getElem?_eq_some_iff.1 hz
        rcases Nat.lt_or_ge j (k - 1) with h4 | h4
        · have := List.pairwise_iff_getElem.1 h.1 j (k - 1) hjl hl h4
          omega
        · obtain rfl : j = k - 1 := by omega
          exact hlt
      · cases hj
  refine ⟨?_, fun y => ?_, ?_⟩
  · have h1 : Inc (out.take k) := List.Pairwise.sublist (List.take_sublist _ _) h.1
    have h2 : Inc (out.drop k) := List.Pairwise.sublist (List.drop_sublist _ _) h.1
    refine List.pairwise_append.2 ⟨List.pairwise_append.2 ⟨h1, by simp, fun a ha b hb => ?_⟩, h2, fun a ha b hb => ?_⟩
    · simp at hb; subst hb; exact ht a ha
    · rcases List.mem_append.1 ha with ha | ha
      · have := ht a ha; have := hg b hb; omega
      · simp at ha; subst ha; exact hg b hb
  · rw [okWho_succ ha, hc, if_pos rfl, List.mem_append, List.mem_append, List.mem_append, ← h.2.1 y, List.mem_singleton]
    have : y ∈ out ↔ y ∈ out.take k ∨ y ∈ out.drop k := by
      conv => lhs; rw [← List.take_append_drop k out]
      exact List.mem_append
    rw [this]
    constructor
    · rintro ((h | h) | h)
      · exact .inl (.inl h)
      · exact .inr h
      · exact .inl (.inr h)
    · rintro ((h | h) | h)
      · exact .inl (.inl h)
      · exact .inr h
      · exact .inl (.inr h)
  · have := h.2.2
    simp; omega
theorem FinR.same {l : List AnsD} {a b : List Int} (ha : FinR l l.length a) (hb : FinR l l.length b) : a = b := inc_ext ha.1 hb.1 fun y => (ha.2.1 y).trans (hb.2.1 y).symm
theorem FinR.nodup {l : List AnsD} {i : Nat} {a : List Int} (ha : FinR l i a) : a.Nodup := ha.1.imp fun h e => by omega
theorem FinR.wf {l : List AnsD} {a : List Int} (ha : FinR l l.length a) : ∀ x ∈ a, (Lit.int .i64 x).wf = true := fun x hx => okWho_wf l x (by have := (ha.2.1 x).1 hx; rwa [List.take_length] at this)
/-- What Finished hands back. -/
def FinRet (l : List AnsD) (w : World) (e : Ending) (w' : World) : Prop :=
  ∃ xs a cap, FinR l l.length xs ∧ e = .returned (.slice a xs.length cap) ∧ OwnInts w' 2 (.slice a xs.length cap) xs ∧ NewFrom w.heap.size (.slice a xs.length cap) ∧ Fr w w' Nil
/-- Was anything touched that one wrote who was undone? -/
def hitW (l : List AnsD) (t : TouchD) : Bool := t.wrote && l.any fun a => (a.who == t.who) && !(a.code == 0)
end Go.Proofs.Ytegejcmihojhbaa
