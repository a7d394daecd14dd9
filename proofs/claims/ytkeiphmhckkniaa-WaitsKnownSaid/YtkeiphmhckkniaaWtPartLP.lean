/-
  What parts are: plain Lean.
  No condition.
-/
import Derived.Test.YtkeiphmhckkniaaWtPartsP
import Derived.Test.YtkeiphmhckkniaaWtFarP
namespace Go.Proofs.Ytkeiphmhckkniaa
open Go Go.RowKit

/-- Who stands first in its part. -/
def repsP (G : List (List Int)) : List Nat := (List.range G.length).filter fun i => !doneB G i i
theorem partsP_reps (G : List (List Int)) : partsP G = (repsP G).map fun i => ints (partOf G i) := rfl
theorem mem_reps {G : List (List Int)} {i : Nat} : i ∈ repsP G ↔ i < G.length ∧ ∀ j, j < i → eqvB G j i = false := by
  unfold repsP
  rw [List.mem_filter, List.mem_range]
  refine and_congr_right fun _ => ?_
  constructor
  · intro h j hj
    cases he : eqvB G j i with
    | false => rfl
    | true => rw [doneB_iff.2 ⟨j, hj, he⟩] at h; cases h
  · intro h
    cases hd : doneB G i i with
    | false => rfl
    | true =>
      obtain ⟨j, hj, he⟩ := doneB_iff.1 hd
      rw [h j hj] at he; cases he
theorem reps_one {G : List (List Int)} {r s : Nat} (hr : r ∈ repsP G) (hs : s ∈ repsP G) (h : eqvB G r s = true) : r = s := by
  rcases Nat.lt_trichotomy r s with hlt | rfl | hlt
  · rw [(mem_reps.1 hs).2 r hlt] at h; cases h
  · rfl
  · have h2 := eqvB_symm h
    rw [(mem_reps.1 hr).2 s hlt] at h2
    cases h2
theorem mem_part {G : List (List Int)} {r x : Nat} : x ∈ partOf G r ↔ x < G.length ∧ eqvB G r x = true := by
  unfold partOf
  rw [List.mem_filter, List.mem_range]
theorem rep_of {G : List (List Int)} {x : Nat} (hx : x < G.length) : ∃ r, r ∈ repsP G ∧ x ∈ partOf G r := by
  have key : ∀ n, n ≤ x → eqvB G n x = true → ∃ r, r ∈ repsP G ∧ eqvB G r x = true := by
    intro n
    induction n using Nat.strongRecOn with
    | ind n ih =>
      intro hn he
      by_cases hr : n ∈ repsP G
      · exact ⟨n, hr, he⟩
      · rw [mem_reps] at hr
        have : ∃ j, j < n ∧ eqvB G j n = true := by
          refine Classical.byContradiction fun hc => hr ⟨by omega, fun j hj => ?_⟩
          cases h2 : eqvB G j n with
          | false => rfl
          | true => exact absurd ⟨j, hj, h2⟩ hc
        obtain ⟨j, hj, h2⟩ := this
        exact ih j hj (by omega) (eqvB_trans h2 he)
  obtain ⟨r, h1, h2⟩ := key x (Nat.le_refl _) (eqvB_iff.2 (.inl rfl))
  exact ⟨r, h1, mem_part.2 ⟨hx, h2⟩⟩
theorem reps_nodup (G : List (List Int)) : (repsP G).Nodup := List.Nodup.sublist List.filter_sublist List.nodup_range
/-- The parts' nodes, all in a row. -/
def allP (G : List (List Int)) : List Nat := ((repsP G).map (partOf G)).flatten
theorem allP_nodup (G : List (List Int)) : (allP G).Nodup := by
  unfold allP List.Nodup
  rw [List.pairwise_flatten]
  refine ⟨fun l hl => ?_, ?_⟩
  · obtain ⟨r, _, rfl⟩ := List.mem_map.1 hl
    exact List.Nodup.sublist List.filter_sublist List.nodup_range
  · rw [List.pairwise_map]
    refine (reps_nodup G).imp_of_mem fun {r s} hr hs hne x hx y hy e => hne ?_
    subst e
    exact reps_one hr hs (eqvB_trans (mem_part.1 hx).2 (eqvB_symm (mem_part.1 hy).2))
theorem allP_len (G : List (List Int)) : (allP G).length = G.length := by
  have h1 : (allP G).length ≤ G.length := by
    have := sub_len (allP_nodup G) (m := List.range G.length) fun x hx => by
      unfold allP at hx
      obtain ⟨l, hl, hx⟩ := List.mem_flatten.1 hx
      obtain ⟨r, _, rfl⟩ := List.mem_map.1 hl
      exact List.mem_range.2 (mem_part.1 hx).1
    simpa using this
  have h2 : G.length ≤ (allP G).length := by
    have := sub_len (l := List.range G.length) List.nodup_range (m := allP G) fun x hx => by
      obtain ⟨r, hr, hx2⟩ := rep_of (List.mem_range.1 hx)
      unfold allP
      exact List.mem_flatten.2 ⟨_, List.mem_map.2 ⟨r, hr, rfl⟩, hx2⟩
    simpa using this
  omega
/-- How many nodes stand in the first m parts. -/
def cntP (G : List (List Int)) (m : Nat) : Nat := (((partsP G).take m).map List.length).sum
theorem cntP_succ {G : List (List Int)} {m : Nat} {xs : List Int} (h : (partsP G)[m]? = some xs) : cntP G (m + 1) = cntP G m + xs.length := by
  unfold cntP
  rw [List.take_add_one, h]
  simp
theorem cntP_all (G : List (List Int)) : cntP G (partsP G).length = G.length := by
  have h := allP_len G
  unfold allP at h
  rw [List.length_flatten, List.map_map] at h
  unfold cntP
  rw [List.take_length, partsP_reps, List.map_map]
  rw [← h]
  congr 1
  refine List.map_congr_left fun r _ => ?_
  simp [ints_len]
theorem cntP_le (G : List (List Int)) : ∀ m, cntP G m ≤ G.length := fun m => by
  have h := cntP_all G
  unfold cntP at h ⊢
  rw [List.take_length] at h
  rw [← h]
  have e : (partsP G).map List.length = (((partsP G).take m).map List.length) ++ (((partsP G).drop m).map List.length) := by rw [← List.map_append, List.take_append_drop]
  rw [e, List.sum_append]
  omega
theorem part_get {G : List (List Int)} {i : Nat} {xs : List Int} (h : (partsP G)[i]? = some xs) : ∃ r, (repsP G)[i]? = some r ∧ r ∈ repsP G ∧ xs = ints (partOf G r) := by
  rw [partsP_reps, List.getElem?_map] at h
  cases hr : (repsP G)[i]? with
  | none => rw [hr] at h; cases h
  | some r =>
    rw [hr] at h
    cases h
    exact ⟨r, rfl, List.mem_of_getElem? hr, rfl⟩
/-- In which part each of those looked at stands. -/
def InP (G : List (List Int)) (i k : Nat) (L : List Int) : Prop := L.length = G.length ∧ ∀ (j x : Nat) (xs : List Int), (partsP G)[j]? = some xs → ((j < i ∧ (x : Int) ∈ xs) ∨ (j = i ∧ (x : Int) ∈ xs.take k)) → L.getD x 0 = (j : Int)
theorem InP.start {G : List (List Int)} {L : List Int} (h : L.length = G.length) : InP G 0 0 L := ⟨h, fun j x xs _ hh => by rcases hh with ⟨h1, _⟩ | ⟨_, h1⟩; omega; simp at h1⟩
theorem InP.next {G : List (List Int)} {i : Nat} {xs : List Int} {L : List Int} (hx : (partsP G)[i]? = some xs) (h : InP G i xs.length L) : InP G (i + 1) 0 L := ⟨h.1, fun j x ys hy hh => by
  rcases hh with ⟨h1, h2⟩ | ⟨_, h1⟩
  · by_cases e : j = i
    · subst e
      rw [hx] at hy; cases hy
      exact h.2 j x _ hx (.inr ⟨rfl, by rw [List.take_length]; exact h2⟩)
    · exact h.2 j x ys hy (.inl ⟨by omega, h2⟩)
  · simp at h1⟩
theorem InP.put {G : List (List Int)} {i k p : Nat} {xs : List Int} {L : List Int} (h : InP G i k L) (hx : (partsP G)[i]? = some xs) (hp : xs[k]? = some (p : Int)) (hpl : p < G.length) : InP G i (k + 1) (L.set p (i : Int)) := ⟨by rw [List.length_set]; exact h.1, fun j x ys hy hh => by
  rw [getD_set (by rw [h.1]; exact hpl)]
  by_cases e : x = p
  · subst e
    rw [if_pos rfl]
    rcases hh with ⟨h1, h2⟩ | ⟨rfl, _⟩
    · exfalso
      obtain ⟨r, hr, hrm, rfl⟩ := part_get hy
      obtain ⟨s, hs, hsm, rfl⟩ := part_get hx
      obtain ⟨y, ey, h3⟩ := mem_ints.1 h2
      obtain ⟨z, ez, h4⟩ := mem_ints.1 (List.mem_of_getElem? hp)
      obtain rfl : x = y := by omega
      obtain rfl : x = z := by omega
      have := reps_one hrm hsm (eqvB_trans (mem_part.1 h3).2 (eqvB_symm (mem_part.1 h4).2))
      subst this
      have := List.getElem?_inj (List.getElem?_eq_some_iff.1 hr).1 (reps_nodup G) |>.1 (hr.trans hs.symm)
      omega
    · rfl
  · rw [if_neg e]
    refine h.2 j x ys hy (hh.imp id fun h2 => ⟨h2.1, ?_⟩)
    obtain ⟨rfl, h3⟩ := h2
    rw [hx] at hy; cases hy
    rw [List.take_add_one, hp, List.mem_append] at h3
    rcases h3 with h3 | h3
    · exact h3
    · simp at h3; omega⟩
/-- Two stand in one part just if they reach each other. -/
theorem InP.same {G : List (List Int)} {L : List Int} (h : InP G (partsP G).length 0 L) {a b : Nat} (ha : a < G.length) (hb : b < G.length) : (L.getD a 0 == L.getD b 0) = eqvB G a b := by
  have hin : ∀ x, x < G.length → ∃ (j r : Nat), (repsP G)[j]? = some r ∧ r ∈ repsP G ∧ eqvB G r x = true ∧ L.getD x 0 = (j : Int) := fun x hx => by
    obtain ⟨r, hr, hm⟩ := rep_of hx
    obtain ⟨j, hj⟩ := List.getElem?_of_mem hr
    have hp : (partsP G)[j]? = some (ints (partOf G r)) := by rw [partsP_reps, List.getElem?_map, hj]; rfl
    exact ⟨j, r, hj, hr, (mem_part.1 hm).2, h.2 j x _ hp (.inl ⟨(List.getElem?_eq_some_iff.1 hp).1, mem_ints.2 ⟨x, rfl, hm⟩⟩)⟩
  obtain ⟨ja, ra, a1, a2, a3, a4⟩ := hin a ha
  obtain ⟨jb, rb, b1, b2, b3, b4⟩ := hin b hb
  rw [a4, b4, Bool.eq_iff_iff, beq_iff_eq]
  constructor
  · intro e
    have e : ja = jb := by omega
    subst e
    rw [a1] at b1; cases b1
    exact eqvB_trans (eqvB_symm a3) b3
  · intro e
    have := reps_one a2 b2 (eqvB_trans a3 (eqvB_trans e (eqvB_symm b3)))
    subst this
    have := List.getElem?_inj (List.getElem?_eq_some_iff.1 a1).1 (reps_nodup G) |>.1 (a1.trans b1.symm)
    omega
theorem Leads.first {G : List (List Int)} {a b : Nat} (h : Leads G a b) : ∃ c, c < G.length ∧ a < G.length ∧ sees G a c = true ∧ (c = b ∨ Leads G c b) := by
  induction h with
  | one h1 h2 h3 => exact ⟨_, h3, h2, h1, .inl rfl⟩
  | more h1 h2 h3 ih =>
    obtain ⟨c, k1, k2, k3, k4⟩ := ih
    refine ⟨c, k1, k2, k3, .inr ?_⟩
    rcases k4 with rfl | k4
    · exact Leads.one h2 k1 h3
    · exact Leads.more k4 h2 h3
def oneB (G : List (List Int)) (xs : List Int) : Bool := decide (xs.length = 1) && !(G.getD (xs.getD 0 0).toNat []).contains (xs.getD 0 0)
def singleB (G : List (List Int)) (m : Nat) : Bool := ((partsP G).take m).all (oneB G)
theorem singleB_succ {G : List (List Int)} {m : Nat} {xs : List Int} (h : (partsP G)[m]? = some xs) : singleB G (m + 1) = (singleB G m && oneB G xs) := by
  unfold singleB
  rw [List.take_add_one, h, List.all_append]
  simp
theorem single_acyc (G : List (List Int)) : singleB G (partsP G).length = okP G [] := by
  rw [ok_acyc]
  unfold singleB
  rw [List.take_length, Bool.eq_iff_iff, List.all_eq_true]
  unfold acycP
  rw [List.all_eq_true]
  constructor
  · intro h i hi
    have hil := List.mem_range.1 hi
    obtain ⟨r, hr, hm⟩ := rep_of hil
    have h1 := h (ints (partOf G r)) (by rw [partsP_reps]; exact List.mem_map.2 ⟨r, hr, rfl⟩)
    unfold oneB at h1
    simp only [Bool.and_eq_true, decide_eq_true_eq, Bool.not_eq_true'] at h1
    obtain ⟨h2, h3⟩ := h1
    rw [ints_len] at h2
    have hone : ∀ x, x ∈ partOf G r → x = i := fun x hx => by
      match hp : partOf G r, h2 with
      | [y], _ =>
        rw [hp] at hx hm
        rw [List.mem_singleton.1 hx, List.mem_singleton.1 hm]
    have hri := hone r (mem_part.2 ⟨(mem_reps.1 hr).1, eqvB_iff.2 (.inl rfl)⟩)
    subst hri
    have hhead : (ints (partOf G r)).getD 0 0 = (r : Int) := by
      rw [ints_getD]
      match hp : partOf G r, h2 with
      | [y], _ =>
        have := hone y (by rw [hp]; simp)
        simp [this]
    rw [hhead, Int.toNat_natCast] at h3
    cases hw : wayP G r r with
    | false => rfl
    | true =>
      exfalso
      obtain ⟨c, k1, k2, k3, k4⟩ := (wayP_iff.1 hw).first
      by_cases e : c = r
      · subst e
        unfold sees at k3
        rw [h3] at k3; cases k3
      · have hc := hone c (mem_part.2 ⟨k1, eqvB_iff.2 (.inr ⟨Leads.one k3 k2 k1, k4.resolve_left e⟩)⟩)
        exact e hc
  · intro h xs hx
    rw [partsP_reps] at hx
    obtain ⟨r, hr, rfl⟩ := List.mem_map.1 hx
    have hrl := (mem_reps.1 hr).1
    have hno : ∀ k, k < G.length → ¬ Leads G k k := fun k hk hl => by
      have := h k (List.mem_range.2 hk)
      rw [wayP_iff.2 hl] at this; cases this
    have hp : partOf G r = [r] := by
      have h1 : ∀ x ∈ partOf G r, x = r := fun x hx => by
        obtain ⟨h2, h3⟩ := mem_part.1 hx
        rcases eqvB_iff.1 h3 with rfl | h4
        · rfl
        · exact absurd (h4.1.trans h4.2) (hno r hrl)
      have hn : (partOf G r).Nodup := List.Nodup.sublist List.filter_sublist List.nodup_range
      have hm : r ∈ partOf G r := mem_part.2 ⟨hrl, eqvB_iff.2 (.inl rfl)⟩
      match hq : partOf G r with
      | [] => rw [hq] at hm; cases hm
      | [y] => rw [h1 y (by rw [hq]; simp)]
      | y :: z :: l =>
        rw [hq] at hn
        have e1 := h1 y (by rw [hq]; simp)
        have e2 := h1 z (by rw [hq]; simp)
        rw [e1, e2] at hn
        simp at hn
    unfold oneB
    rw [hp]
    have hs : (G.getD r []).contains (r : Int) = false := by
      cases hs : (G.getD r []).contains (r : Int) with
      | false => rfl
      | true => exact absurd (Leads.one hs hrl hrl) (hno r hrl)
    simp only [ints, List.map_cons, List.map_nil, List.length_singleton, List.getD_cons_zero, Int.toNat_natCast, hs]
    rfl
end Go.Proofs.Ytkeiphmhckkniaa
