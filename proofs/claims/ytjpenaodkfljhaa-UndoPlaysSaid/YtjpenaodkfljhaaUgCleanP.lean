/-
  In which order the document takes entries back, and the program: no walk.
  No condition.
-/
import Derived.Test.YtjpenaodkfljhaaUgForget
namespace Go.Proofs.Ytjpenaodkfljhaa
open Go Go.RowKit

theorem inc_filter {l : List Int} (h : Inc l) (p : Int → Bool) : Inc (l.filter p) := h.filter _
theorem seqTo_filter (L : List (Int × Ent)) (p : Int → Bool) : ∀ ks : List Int, (∀ y ∈ ks, p y = false → ofL L y = []) → seqTo L ks = seqTo L (ks.filter p)
  | [], _ => rfl
  | y :: ks, h => by
    have ih := seqTo_filter L p ks fun z hz => h z (by simp [hz])
    show (ofL L y).reverse ++ seqTo L ks = _
    by_cases hp : p y = true
    · rw [List.filter_cons_of_pos hp, ih]
      rfl
    · rw [List.filter_cons_of_neg hp, ← ih, h y (by simp) (by simpa using hp)]
      rfl
theorem seq_any {L : List (Int × Ent)} {ks : List Int} (hi : Inc ks) (h : ∀ y ∈ keysL L, y ∈ ks) : cleanSeq L = seqTo L ks := by
  unfold cleanSeq
  rw [seqTo_filter L (fun y => (keysL L).contains y) ks fun y _ hp => ?_]
  · congr 1
    refine inc_ext (keysL_inc L) (inc_filter hi _) fun x => ?_
    rw [List.mem_filter]
    constructor
    · exact fun hx => ⟨h x hx, List.contains_iff_mem.2 hx⟩
    · exact fun hx => List.contains_iff_mem.1 hx.2
  · cases hc : ofL L y with
    | nil => rfl
    | cons e es =>
      have : y ∈ keysL L := mem_keysL.2 (mem_ofL.1 (by rw [hc]; simp))
      rw [List.contains_iff_mem.2 this] at hp; cases hp
theorem back_keys {L : List (Int × Ent)} {x y : Int} (h : y ∈ keysL (backL L x)) : y ∈ keysL L := by
  rw [mem_keysL] at h ⊢
  obtain ⟨p, hp, rfl⟩ := List.mem_map.1 h
  refine List.mem_map.2 ⟨p, ?_, rfl⟩
  unfold backL at hp
  split at hp
  · exact hp
  · exact List.mem_of_mem_eraseIdx hp
/-- One step of the document's. -/
theorem clean_step {L : List (Int × Ent)} {x : Int} {ds : List Ent} {e : Ent} (M : List MTab) (hmin : ∀ p ∈ L, x ≤ p.1) (h : ofL L x = ds ++ [e]) : cleanM (undoE M e) (backL L x) = cleanM M L := by
  obtain ⟨hb, _⟩ := back_some h
  have hx : x ∈ keysL L := mem_keysL.2 (mem_ofL.1 (by rw [h]; simp))
  have hinc := keysL_inc L
  obtain ⟨ks, hks⟩ : ∃ ks, keysL L = x :: ks := by
    cases hk : keysL L with
    | nil => rw [hk] at hx; cases hx
    | cons y ks =>
      rw [hk] at hx hinc
      rcases List.mem_cons.1 hx with rfl | hx
      · exact ⟨ks, rfl⟩
      · have h1 := (List.pairwise_cons.1 hinc).1 x hx
        have h2 : y ∈ L.map Prod.fst := mem_keysL.1 (by rw [hk]; simp)
        obtain ⟨p, hp, rfl⟩ := List.mem_map.1 h2
        have := hmin p hp
        omega
  have hinc2 := hinc
  rw [hks] at hinc2
  have hne := (List.pairwise_cons.1 hinc2).1
  unfold cleanM
  rw [seq_any (L := backL L x) hinc2 fun y hy => by rw [← hks]; exact back_keys hy]
  unfold cleanSeq
  rw [hks]
  show ((ofL (backL L x) x).reverse ++ seqTo (backL L x) ks).foldl undoE (undoE M e) = ((ofL L x).reverse ++ seqTo L ks).foldl undoE M
  rw [hb, if_pos rfl, h, List.reverse_append]
  have hs : seqTo (backL L x) ks = seqTo L ks := by
    unfold seqTo
    have : ∀ l : List Int, (∀ y ∈ l, y ≠ x) → (l.flatMap fun who => (ofL (backL L x) who).reverse) = l.flatMap fun who => (ofL L who).reverse := by
      intro l
      induction l with
      | nil => intro _; rfl
      | cons y l ih =>
        intro hy
        rw [List.flatMap_cons, List.flatMap_cons, ih fun z hz => hy z (by simp [hz]), hb, if_neg (hy y (by simp))]
    exact this ks fun y hy e2 => by have := hne y hy; omega
  rw [hs]
  rfl
def LeastIs (L : List (Int × Ent)) (i : Nat) (v : Int) : Prop := (i = 0 ∧ v = -1) ∨ ∃ (m : Nat) (p : Int × Ent), v = (m : Int) ∧ m < i ∧ L[m]? = some p ∧ ∀ j q, j < i → L[j]? = some q → p.1 ≤ q.1
theorem LeastIs.first {L : List (Int × Ent)} {q : Int × Ent} (h : L[0]? = some q) : LeastIs L 1 0 := .inr ⟨0, q, rfl, by omega, h, fun j r hj hr => by
  obtain rfl : j = 0 := by omega
  rw [h] at hr; cases hr; exact Int.le_refl _⟩
theorem LeastIs.less {L : List (Int × Ent)} {i : Nat} {p q : Int × Ent} (hp : ∀ j r, j < i → L[j]? = some r → p.1 ≤ r.1) (hq : L[i]? = some q) (hlt : q.1 < p.1) : LeastIs L (i + 1) i := .inr ⟨i, q, rfl, by omega, hq, fun j r hj hr => by
  by_cases e : j = i
  · subst e; rw [hq] at hr; cases hr; exact Int.le_refl _
  · have := hp j r (by omega) hr; omega⟩
theorem LeastIs.keep {L : List (Int × Ent)} {i m : Nat} {p q : Int × Ent} (hm : m < i) (hpm : L[m]? = some p) (hp : ∀ j r, j < i → L[j]? = some r → p.1 ≤ r.1) (hq : L[i]? = some q) (hlt : ¬ q.1 < p.1) : LeastIs L (i + 1) m := .inr ⟨m, p, rfl, by omega, hpm, fun j r hj hr => by
  by_cases e : j = i
  · subst e; rw [hq] at hr; cases hr; omega
  · exact hp j r (by omega) hr⟩
theorem clean_nil (M : List MTab) : cleanM M [] = M := clean_one (fun p hp => by cases hp) M
end Go.Proofs.Ytjpenaodkfljhaa
