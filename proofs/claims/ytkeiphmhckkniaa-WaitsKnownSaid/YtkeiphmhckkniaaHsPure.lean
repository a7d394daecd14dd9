/-
  Orders of a graph in plain lists: what can be next, the order that picks choose, what an order is, ways and rings. No program in sight.
  No condition.
-/
namespace Go.Proofs.Ytkeiphmhckkniaa

def sees (G : List (List Int)) (k i : Nat) : Bool := (G.getD k []).contains (i : Int)
/-- The nodes that can be next, those of out being there. -/
def nextO (G : List (List Int)) (out : List Nat) : List Nat :=
  (List.range G.length).filter fun i => !out.contains i && (List.range G.length).all fun k => out.contains k || !sees G k i
def pickAt (picks : List Int) (k n : Nat) : Nat := if k < picks.length then (((picks.getD k 0).tmod n + n).tmod n).toNat else 0
def orderGo (G : List (List Int)) (picks : List Int) : Nat → List Nat → List Nat
  | 0, out => out
  | f + 1, out => if (nextO G out).length = 0 then out else orderGo G picks f (out ++ [(nextO G out).getD (pickAt picks out.length (nextO G out).length) 0])
def orderP (G : List (List Int)) (picks : List Int) : List Nat := orderGo G picks G.length []
def okP (G : List (List Int)) (picks : List Int) : Bool := decide ((orderP G picks).length = G.length)

theorem mem_nextO {G : List (List Int)} {out : List Nat} {i : Nat} : i ∈ nextO G out ↔ i < G.length ∧ i ∉ out ∧ ∀ k, k < G.length → k ∈ out ∨ sees G k i = false := by
  unfold nextO
  simp only [List.mem_filter, List.mem_range, Bool.and_eq_true, Bool.not_eq_true', List.all_eq_true, Bool.or_eq_true, List.contains_iff_mem]
  constructor
  · rintro ⟨h1, h2, h3⟩
    refine ⟨h1, fun h => ?_, h3⟩
    have := List.contains_iff_mem.2 h
    rw [this] at h2; cases h2
  · rintro ⟨h1, h2, h3⟩
    refine ⟨h1, ?_, h3⟩
    cases hc : out.contains i with
    | false => rfl
    | true => exact absurd (List.contains_iff_mem.1 hc) h2

/-- Different nodes of the graph. -/
def Okay (n : Nat) (out : List Nat) : Prop := out.Nodup ∧ ∀ i ∈ out, i < n
theorem sub_len : ∀ {l m : List Nat}, l.Nodup → (∀ x ∈ l, x ∈ m) → l.length ≤ m.length
  | [], m, _, _ => by simp
  | x :: l, m, h, hs => by
    obtain ⟨h1, h2⟩ := List.nodup_cons.1 h
    have hx := hs x (by simp)
    have := sub_len (l := l) (m := m.erase x) h2 fun y hy => (List.mem_erase_of_ne (by intro e; subst e; exact h1 hy)).2 (hs y (by simp [hy]))
    rw [List.length_erase_of_mem hx] at this
    have := List.length_pos_of_mem hx
    simp only [List.length_cons]; omega
theorem sub_full {l m : List Nat} (h : l.Nodup) (hs : ∀ x ∈ l, x ∈ m) (hl : m.length ≤ l.length) (x : Nat) (hx : x ∈ m) : x ∈ l := by
  rcases Classical.em (x ∈ l) with hn | hn
  · exact hn
  · have := sub_len (l := x :: l) (m := m) (List.nodup_cons.2 ⟨hn, h⟩) fun y hy => by
      rcases List.mem_cons.1 hy with rfl | hy
      · exact hx
      · exact hs y hy
    simp at this; omega
theorem Okay.len {n : Nat} {out : List Nat} (h : Okay n out) : out.length ≤ n := by
  have := sub_len (m := List.range n) h.1 fun i hi => List.mem_range.2 (h.2 i hi)
  simpa using this
theorem Okay.full {n : Nat} {out : List Nat} (h : Okay n out) (hl : out.length = n) : ∀ i, i < n → i ∈ out := fun i hi =>
  sub_full h.1 (m := List.range n) (fun i hi => List.mem_range.2 (h.2 i hi)) (by simp [hl]) i (List.mem_range.2 hi)
theorem Okay.snoc {G : List (List Int)} {out : List Nat} {x : Nat} (h : Okay G.length out) (hx : x ∈ nextO G out) : Okay G.length (out ++ [x]) := by
  obtain ⟨h1, h2, _⟩ := mem_nextO.1 hx
  refine ⟨List.nodup_append.2 ⟨h.1, by simp, fun a ha b hb => ?_⟩, fun i hi => ?_⟩
  · simp at hb; subst hb; intro e; subst e; exact h2 ha
  · rcases List.mem_append.1 hi with hi | hi
    · exact h.2 i hi
    · simp at hi; subst hi; exact h1
theorem nextO_full {G : List (List Int)} {out : List Nat} (h : Okay G.length out) (hl : out.length = G.length) : nextO G out = [] := by
  apply List.eq_nil_iff_forall_not_mem.2
  intro i hi
  obtain ⟨h1, h2, _⟩ := mem_nextO.1 hi
  exact h2 (h.full hl i h1)
theorem pickAt_lt {picks : List Int} {k n : Nat} (hn : 0 < n) : pickAt picks k n < n := by
  unfold pickAt
  split
  · have h1 := Int.tmod_lt_of_pos (picks.getD k 0) (b := (n : Int)) (by omega)
    have h0 := Int.lt_tmod_of_pos (picks.getD k 0) (b := (n : Int)) (by omega)
    have h2 := Int.tmod_lt_of_pos ((picks.getD k 0).tmod n + n) (b := (n : Int)) (by omega)
    have h3 : 0 ≤ ((picks.getD k 0).tmod n + n).tmod n := Int.tmod_nonneg _ (by omega)
    omega
  · exact hn
theorem getD_mem {l : List Nat} {p : Nat} (h : p < l.length) : l.getD p 0 ∈ l := by
  simp [List.getD_eq_getElem?_getD, List.getElem?_eq_getElem h]

/-- Each stands where it can be next. -/
def Chain (G : List (List Int)) (out : List Nat) : Prop := ∀ p x, out[p]? = some x → x ∈ nextO G (out.take p)
theorem Chain.nil (G : List (List Int)) : Chain G [] := fun p x h => by simp at h
theorem Chain.snoc {G : List (List Int)} {out : List Nat} {x : Nat} (h : Chain G out) (hx : x ∈ nextO G out) : Chain G (out ++ [x]) := by
  intro p y hy
  by_cases hp : p < out.length
  · rw [List.getElem?_append_left hp] at hy
    rw [List.take_append_of_le_length (by omega)]
    exact h p y hy
  · have hp2 := (List.getElem?_eq_some_iff.1 hy).1
    simp at hp2
    obtain rfl : p = out.length := by omega
    simp at hy
    subst hy
    simpa using hx
theorem orderGo_chain {G : List (List Int)} {picks : List Int} : ∀ (f : Nat) (out : List Nat), Chain G out → Okay G.length out → Chain G (orderGo G picks f out) ∧ Okay G.length (orderGo G picks f out)
  | 0, _, h, k => ⟨h, k⟩
  | f + 1, out, h, k => by
    unfold orderGo
    split
    · exact ⟨h, k⟩
    · rename_i hn
      have hx := getD_mem (pickAt_lt (picks := picks) (k := out.length) (show 0 < (nextO G out).length by omega))
      exact orderGo_chain f _ (h.snoc hx) (k.snoc hx)
theorem orderP_chain (G : List (List Int)) (picks : List Int) : Chain G (orderP G picks) ∧ Okay G.length (orderP G picks) :=
  orderGo_chain _ _ (Chain.nil G) ⟨List.nodup_nil, fun i hi => by simp at hi⟩
/-- Nothing can be next, or all are there. -/
theorem orderGo_stuck {G : List (List Int)} {picks : List Int} : ∀ (f : Nat) (out : List Nat), Okay G.length out → f + out.length = G.length → nextO G (orderGo G picks f out) = []
  | 0, out, k, hl => by unfold orderGo; exact nextO_full k (by omega)
  | f + 1, out, k, hl => by
    unfold orderGo
    split
    · rename_i hn; exact List.eq_nil_of_length_eq_zero hn
    · rename_i hn
      have hx := getD_mem (pickAt_lt (picks := picks) (k := out.length) (show 0 < (nextO G out).length by omega))
      exact orderGo_stuck f _ (k.snoc hx) (by simp; omega)
theorem orderP_stuck (G : List (List Int)) (picks : List Int) : nextO G (orderP G picks) = [] :=
  orderGo_stuck _ _ ⟨List.nodup_nil, fun i hi => by simp at hi⟩ (by simp)

/-- Is: step by step. -/
def isStep (G : List (List Int)) (ord : List Int) (p : Nat) : Bool :=
  decide (0 ≤ ord.getD p 0) && decide (ord.getD p 0 < G.length) && (nextO G ((ord.take p).map Int.toNat)).contains (ord.getD p 0).toNat
def isP (G : List (List Int)) (ord : List Int) : Bool := decide (ord.length = G.length) && (List.range ord.length).all fun p => isStep G ord p
/-- Is: as the document has it. -/
def isRow (G : List (List Int)) (ord : List Int) (p : Nat) : Bool :=
  decide (0 ≤ ord.getD p 0) && decide (ord.getD p 0 < G.length) && !sees G (ord.getD p 0).toNat (ord.getD p 0).toNat && (List.range p).all fun k => !(ord.getD k 0 == ord.getD p 0) && !sees G (ord.getD p 0).toNat (ord.getD k 0).toNat
def isR (G : List (List Int)) (ord : List Int) : Bool := decide (ord.length = G.length) && (List.range ord.length).all fun p => isRow G ord p

theorem isStep_iff {G : List (List Int)} {ord : List Int} {p : Nat} : isStep G ord p = true ↔ 0 ≤ ord.getD p 0 ∧ ord.getD p 0 < G.length ∧ (ord.getD p 0).toNat ∈ nextO G ((ord.take p).map Int.toNat) := by
  unfold isStep
  simp only [Bool.and_eq_true, decide_eq_true_eq, List.contains_iff_mem, and_assoc]
theorem isRow_iff {G : List (List Int)} {ord : List Int} {p : Nat} : isRow G ord p = true ↔ 0 ≤ ord.getD p 0 ∧ ord.getD p 0 < G.length ∧ sees G (ord.getD p 0).toNat (ord.getD p 0).toNat = false ∧ ∀ k, k < p → ord.getD k 0 ≠ ord.getD p 0 ∧ sees G (ord.getD p 0).toNat (ord.getD k 0).toNat = false := by
  unfold isRow
  simp only [Bool.and_eq_true, decide_eq_true_eq, Bool.not_eq_true', List.all_eq_true, List.mem_range, and_assoc, beq_eq_false_iff_ne, ne_eq]
theorem mem_take_getD {ord : List Int} {p : Nat} {x : Int} (hp : p ≤ ord.length) : x ∈ ord.take p ↔ ∃ k, k < p ∧ ord.getD k 0 = x := by
  constructor
  · intro h
    obtain ⟨k, hk⟩ := List.getElem?_of_mem h
    rw [List.getElem?_take] at hk
    split at hk
    · exact ⟨k, by assumption, by simp [List.getD_eq_getElem?_getD, hk]⟩
    · cases hk
  · rintro ⟨k, hk, rfl⟩
    apply List.mem_of_getElem? (i := k)
    rw [List.getElem?_take, if_pos hk]
    simp [List.getD_eq_getElem?_getD, List.getElem?_eq_getElem (show k < ord.length by omega)]
theorem mem_nats {ord : List Int} {p : Nat} {i : Nat} (hp : p ≤ ord.length) (h0 : ∀ k, k < p → 0 ≤ ord.getD k 0) : i ∈ (ord.take p).map Int.toNat ↔ ∃ k, k < p ∧ ord.getD k 0 = (i : Int) := by
  rw [List.mem_map]
  constructor
  · rintro ⟨x, hx, rfl⟩
    obtain ⟨k, hk, rfl⟩ := (mem_take_getD hp).1 hx
    have := h0 k hk
    exact ⟨k, hk, by omega⟩
  · rintro ⟨k, hk, e⟩
    exact ⟨_, (mem_take_getD hp).2 ⟨k, hk, rfl⟩, by rw [e]; simp⟩
/-- Different numbers of nodes, as many as there are nodes: all. -/
theorem all_there {ord : List Int} {n : Nat} (hl : ord.length = n) (h0 : ∀ k, k < n → 0 ≤ ord.getD k 0 ∧ ord.getD k 0 < n) (hd : ∀ p, p < n → ∀ k, k < p → ord.getD k 0 ≠ ord.getD p 0) (i : Nat) (hi : i < n) : ∃ k, k < n ∧ ord.getD k 0 = (i : Int) := by
  have hok : Okay n (ord.map Int.toNat) := by
    refine ⟨?_, fun x hx => ?_⟩
    · rw [List.nodup_iff_pairwise_ne, List.pairwise_iff_getElem]
      intro a b ha hb hab
      simp only [List.length_map] at ha hb
      simp only [List.getElem_map]
      have h1 := h0 a (by omega)
      have h2 := h0 b (by omega)
      have h3 := hd b (by omega) a hab
      simp only [List.getD_eq_getElem?_getD, List.getElem?_eq_getElem ha, List.getElem?_eq_getElem hb, Option.getD_some] at h1 h2 h3
      omega
    · obtain ⟨y, hy, rfl⟩ := List.mem_map.1 hx
      obtain ⟨k, hk⟩ := List.getElem?_of_mem hy
      have hkl := (List.getElem?_eq_some_iff.1 hk).1
      have := h0 k (by omega)
      simp only [List.getD_eq_getElem?_getD, hk, Option.getD_some] at this
      omega
  have hm := hok.full (by simp [hl]) i hi
  obtain ⟨y, hy, rfl⟩ := List.mem_map.1 hm
  obtain ⟨k, hk⟩ := List.getElem?_of_mem hy
  have hkl := (List.getElem?_eq_some_iff.1 hk).1
  have h2 := h0 k (by omega)
  refine ⟨k, by omega, ?_⟩
  simp only [List.getD_eq_getElem?_getD, hk, Option.getD_some] at h2 ⊢
  omega
theorem isP_isR (G : List (List Int)) (ord : List Int) : isP G ord = isR G ord := by
  rw [Bool.eq_iff_iff]
  unfold isP isR
  simp only [Bool.and_eq_true, decide_eq_true_eq, List.all_eq_true, List.mem_range]
  constructor
  · rintro ⟨hl, h⟩
    refine ⟨hl, fun p hp => ?_⟩
    have hs := fun q (hq : q < ord.length) => isStep_iff.1 (h q hq)
    have hd : ∀ p, p < ord.length → ∀ k, k < p → ord.getD k 0 ≠ ord.getD p 0 := by
      intro p hp k hk e
      obtain ⟨a, b, c⟩ := hs p hp
      refine (mem_nextO.1 c).2.1 ((mem_nats (by omega) fun k hk => (hs k (by omega)).1).2 ⟨k, hk, ?_⟩)
      omega
    have key : ∀ q, q < ord.length → p ≤ q → sees G (ord.getD q 0).toNat (ord.getD p 0).toNat = false := by
      intro q hq hpq
      obtain ⟨a, b, c⟩ := hs p hp
      obtain ⟨a2, b2, _⟩ := hs q hq
      rcases (mem_nextO.1 c).2.2 (ord.getD q 0).toNat (by omega) with h1 | h1
      · obtain ⟨k, hk, e⟩ := (mem_nats (by omega) fun k hk => (hs k (by omega)).1).1 h1
        exact absurd (by omega) (hd q hq k (by omega))
      · exact h1
    obtain ⟨a, b, c⟩ := hs p hp
    refine isRow_iff.2 ⟨a, b, key p hp (Nat.le_refl _), fun k hk => ⟨hd p hp k hk, ?_⟩⟩
    obtain ⟨a2, b2, c2⟩ := hs k (by omega)
    rcases (mem_nextO.1 c2).2.2 (ord.getD p 0).toNat (by omega) with h1 | h1
    · obtain ⟨j, hj, e⟩ := (mem_nats (by omega) fun k hk => (hs k (by omega)).1).1 h1
      exact absurd (by omega) (hd p hp j (by omega))
    · exact h1
  · rintro ⟨hl, h⟩
    refine ⟨hl, fun p hp => ?_⟩
    have hs := fun q (hq : q < ord.length) => isRow_iff.1 (h q hq)
    obtain ⟨a, b, c, d⟩ := hs p hp
    refine isStep_iff.2 ⟨a, b, mem_nextO.2 ⟨by omega, fun hm => ?_, fun k hk => ?_⟩⟩
    · obtain ⟨j, hj, e⟩ := (mem_nats (by omega) fun k hk => (hs k (by omega)).1).1 hm
      exact (d j hj).1 (by omega)
    · obtain ⟨q, hq, e⟩ := all_there (n := G.length) hl (fun k hk => ⟨(hs k (by omega)).1, (hs k (by omega)).2.1⟩) (fun p hp k hk => ((hs p (by omega)).2.2.2 k hk).1) k hk
      by_cases hqp : q < p
      · exact .inl ((mem_nats (by omega) fun k hk => (hs k (by omega)).1).2 ⟨q, hqp, e⟩)
      · right
        obtain ⟨a2, b2, c2, d2⟩ := hs q (by omega)
        by_cases he : q = p
        · subst he
          rw [e] at c2 ⊢
          simpa using c2
        · have := (d2 p (by omega)).2
          rw [e] at this
          simpa using this
/-- The order that is told is one. -/
theorem order_is {G : List (List Int)} {picks : List Int} (h : (orderP G picks).length = G.length) : isP G ((orderP G picks).map fun i : Nat => (i : Int)) = true := by
  obtain ⟨hc, hk⟩ := orderP_chain G picks
  generalize orderP G picks = out at *
  unfold isP
  simp only [Bool.and_eq_true, decide_eq_true_eq, List.all_eq_true, List.mem_range, List.length_map]
  refine ⟨h, fun p hp => isStep_iff.2 ?_⟩
  have hg : (out.map fun i : Nat => (i : Int)).getD p 0 = (out[p] : Int) := by
    simp [List.getD_eq_getElem?_getD, hp]
  rw [hg]
  have hm := hc p out[p] (List.getElem?_eq_getElem hp)
  refine ⟨by omega, by have := hk.2 out[p] (List.getElem_mem hp); omega, ?_⟩
  have : ((out.map fun i : Nat => (i : Int)).take p).map Int.toNat = out.take p := by
    rw [← List.map_take, List.map_map]
    conv => rhs; rw [← List.map_id (out.take p)]
    apply List.map_congr_left
    intro a _
    simp
  rw [this]
  simpa using hm
theorem is_nil {G : List (List Int)} : isP G [] = decide (G.length = 0) := by
  unfold isP
  simp [eq_comm]
end Go.Proofs.Ytkeiphmhckkniaa
