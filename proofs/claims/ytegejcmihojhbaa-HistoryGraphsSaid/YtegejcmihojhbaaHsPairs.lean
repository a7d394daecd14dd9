/-
  The pairs of touches that conflict, in their order; the graph of conflicts. No walk.
  No condition.
-/
import Derived.Test.YtegejcmihojhbaaHsMem
import Derived.Test.YtegejcmihojhbaaHsSort
namespace Go.Proofs.Ytegejcmihojhbaa
open Go

abbrev Pair := TouchD × TouchD
/-- The pairs with b behind, of the first m. -/
def rowP (ts : List TouchD) (b : TouchD) (m : Nat) : List Pair := ((ts.take m).filter fun a => conf a b).map fun a => (a, b)
def aheadTo (ts : List TouchD) : Nat → List Pair
  | 0 => []
  | i + 1 => aheadTo ts i ++ (match ts[i]? with | some b => rowP ts b i | none => [])
def aheadP (ts : List TouchD) : List Pair := aheadTo ts ts.length
theorem aheadTo_succ {ts : List TouchD} {i : Nat} {b : TouchD} (h : ts[i]? = some b) : aheadTo ts (i + 1) = aheadTo ts i ++ rowP ts b i := by
  simp [aheadTo, h]
theorem rowP_zero (ts : List TouchD) (b : TouchD) : rowP ts b 0 = [] := rfl
theorem rowP_succ {ts : List TouchD} {b a : TouchD} {m : Nat} (h : ts[m]? = some a) : rowP ts b (m + 1) = if conf a b then rowP ts b m ++ [(a, b)] else rowP ts b m := by
  unfold rowP
  rw [List.take_add_one, h]
  simp only [Option.toList_some, List.filter_append, List.map_append]
  cases hc : conf a b
  · rw [if_neg (by simp), List.filter_cons_of_neg (by simp only [hc]; simp), List.filter_nil, List.map_nil, List.append_nil]
  · rw [if_pos rfl, List.filter_cons_of_pos (by simp only [hc]), List.filter_nil]; rfl
theorem aheadTo_pre (ts : List TouchD) : ∀ n i, i ≤ n → aheadTo ts i <+: aheadTo ts n := by
  intro n
  induction n with
  | zero => intro i hi; obtain rfl : i = 0 := by omega
            exact List.prefix_refl _
  | succ n ih =>
    intro i hi
    by_cases e : i = n + 1
    · subst e; exact List.prefix_refl _
    · exact (ih i (by omega)).trans ⟨_, rfl⟩
theorem rowP_pre {ts : List TouchD} {b : TouchD} : ∀ n m, m ≤ n → n ≤ ts.length → rowP ts b m <+: rowP ts b n := by
  intro n
  induction n with
  | zero => intro m hm _; obtain rfl : m = 0 := by omega
            exact List.prefix_refl _
  | succ n ih =>
    intro m hm hn
    by_cases e : m = n + 1
    · subst e; exact List.prefix_refl _
    · refine (ih m (by omega) (by omega)).trans ?_
      rw [rowP_succ (List.getElem?_eq_getElem (show n < ts.length by omega))]
      split
      · exact ⟨_, rfl⟩
      · exact List.prefix_refl _
/-- What has come is a part, ahead, of all. -/
theorem part_pre {ts : List TouchD} {b : TouchD} {i m : Nat} (hb : ts[i]? = some b) (hm : m ≤ i) : aheadTo ts i ++ rowP ts b m <+: aheadP ts := by
  have hi := (List.getElem?_eq_some_iff.1 hb).1
  refine List.IsPrefix.trans ?_ (aheadTo_pre ts ts.length (i + 1) hi)
  rw [aheadTo_succ hb]
  exact (List.prefix_append_right_inj _).2 (rowP_pre i m hm (by omega))
theorem mem_rowP {ts : List TouchD} {b : TouchD} {m : Nat} {p : Pair} : p ∈ rowP ts b m ↔ p.2 = b ∧ conf p.1 b = true ∧ ∃ j, j < m ∧ ts[j]? = some p.1 := by
  unfold rowP
  rw [List.mem_map]
  constructor
  · rintro ⟨a, ha, rfl⟩
    obtain ⟨h1, h2⟩ := List.mem_filter.1 ha
    obtain ⟨j, hj⟩ := List.getElem?_of_mem h1
    rw [List.getElem?_take] at hj
    split at hj
    · exact ⟨rfl, h2, j, by assumption, hj⟩
    · cases hj
  · rintro ⟨rfl, h2, j, hj, h3⟩
    refine ⟨p.1, List.mem_filter.2 ⟨List.mem_of_getElem? (i := j) (by rw [List.getElem?_take, if_pos hj]; exact h3), h2⟩, rfl⟩
theorem mem_aheadTo {ts : List TouchD} {p : Pair} : ∀ {n : Nat}, p ∈ aheadTo ts n ↔ ∃ i j : Nat, i < n ∧ j < i ∧ ts[i]? = some p.2 ∧ ts[j]? = some p.1 ∧ conf p.1 p.2 = true := by
  intro n
  induction n with
  | zero => simp [aheadTo]
  | succ n ih =>
    simp only [aheadTo, List.mem_append, ih]
    constructor
    · rintro (⟨i, j, h1, h2, h3⟩ | h)
      · exact ⟨i, j, by omega, h2, h3⟩
      · cases hb : ts[n]? with
        | none => rw [hb] at h; cases h
        | some b =>
          rw [hb] at h
          obtain ⟨rfl, h2, j, hj, h3⟩ := mem_rowP.1 h
          exact ⟨n, j, by omega, hj, hb, h3, h2⟩
    · rintro ⟨i, j, h1, h2, h3, h4, h5⟩
      by_cases e : i = n
      · subst e
        right
        rw [h3]
        exact mem_rowP.2 ⟨rfl, h5, j, h2, h4⟩
      · exact .inl ⟨i, j, by omega, h2, h3, h4, h5⟩
theorem mem_aheadP {ts : List TouchD} {p : Pair} : p ∈ aheadP ts ↔ ∃ i j : Nat, j < i ∧ ts[i]? = some p.2 ∧ ts[j]? = some p.1 ∧ conf p.1 p.2 = true := by
  unfold aheadP
  rw [mem_aheadTo]
  constructor
  · rintro ⟨i, j, _, h⟩; exact ⟨i, j, h⟩
  · rintro ⟨i, j, h1, h2, h3⟩
    exact ⟨i, j, (List.getElem?_eq_some_iff.1 h2).1, h1, h2, h3⟩

/-- Does x point to y? -/
def pts (ts : List TouchD) (x y : Int) : Bool := (aheadP ts).any fun p => p.1.who == x && p.2.who == y
def edgeRow (who : List Int) (ts : List TouchD) (x : Int) : List Nat := (List.range who.length).filter fun k => pts ts x (who.getD k 0)
/-- The graph of conflicts. -/
def graphW (who : List Int) (ts : List TouchD) : List (List Int) := who.map fun x => ints (edgeRow who ts x)

def posW (who : List Int) (x : Int) : Nat := who.idxOf x
/-- One pair more. -/
def gadd (who : List Int) (G : List (List Int)) (p : Pair) : List (List Int) :=
  if who.contains p.1.who && who.contains p.2.who && !(G.getD (posW who p.1.who) []).contains (posW who p.2.who : Int) then G.set (posW who p.1.who) (G.getD (posW who p.1.who) [] ++ [(posW who p.2.who : Int)]) else G
def gAcc (who : List Int) (ps : List Pair) : List (List Int) := ps.foldl (gadd who) (List.replicate who.length [])
theorem gAcc_nil (who : List Int) : gAcc who [] = List.replicate who.length [] := rfl
theorem gAcc_snoc (who : List Int) (ps : List Pair) (p : Pair) : gAcc who (ps ++ [p]) = gadd who (gAcc who ps) p := by simp [gAcc]
theorem gadd_len (who : List Int) (G : List (List Int)) (p : Pair) : (gadd who G p).length = G.length := by unfold gadd; split <;> simp
theorem gAcc_len (who : List Int) (ps : List Pair) : (gAcc who ps).length = who.length := by
  have : ∀ (ps : List Pair) (G : List (List Int)), (ps.foldl (gadd who) G).length = G.length := by
    intro ps
    induction ps with
    | nil => intro G; rfl
    | cons p ps ih => intro G; rw [List.foldl_cons, ih, gadd_len]
  rw [gAcc, this, List.length_replicate]

theorem idxOf_at {who : List Int} (hn : who.Nodup) {i : Nat} {x : Int} (h : who[i]? = some x) : who.idxOf x = i := by
  obtain ⟨hi, rfl⟩ := List.getElem?_eq_some_iff.1 h
  exact List.Nodup.idxOf_getElem hn i hi

/-- What a row holds while the pairs come: different nodes, those that are pointed to. -/
structure RowOk (who : List Int) (ps : List Pair) (i : Nat) (row : List Int) : Prop where
  nodup : row.Nodup
  mem : ∀ y : Int, y ∈ row ↔ ∃ k : Nat, y = (k : Int) ∧ k < who.length ∧ ∃ p ∈ ps, who[i]? = some p.1.who ∧ who[k]? = some p.2.who
theorem gAcc_row (who : List Int) (hn : who.Nodup) (ps : List Pair) (i : Nat) (hi : i < who.length) : RowOk who ps i ((gAcc who ps).getD i []) := by
  have : ∀ (ps : List Pair) , (∀ i, i < who.length → RowOk who ps i ((gAcc who ps).getD i [])) → ∀ (p : Pair) (i : Nat), i < who.length → RowOk who (ps ++ [p]) i ((gAcc who (ps ++ [p])).getD i []) := by
    intro ps ih p i hi
    have hri := ih i hi
    rw [gAcc_snoc]
    unfold gadd
    by_cases hc1 : who.contains p.1.who = true
    · by_cases hc2 : who.contains p.2.who = true
      · have hm1 := List.contains_iff_mem.1 hc1
        have hm2 := List.contains_iff_mem.1 hc2
        have ha : posW who p.1.who < who.length := List.idxOf_lt_length_of_mem hm1
        have hb : posW who p.2.who < who.length := List.idxOf_lt_length_of_mem hm2
        have ea : who[posW who p.1.who]? = some p.1.who := by
          rw [List.getElem?_eq_getElem ha]; exact congrArg some (List.getElem_idxOf ha)
        have eb : who[posW who p.2.who]? = some p.2.who := by
          rw [List.getElem?_eq_getElem hb]; exact congrArg some (List.getElem_idxOf hb)
        have ua : ∀ j, who[j]? = some p.1.who → j = posW who p.1.who := fun j h => (idxOf_at hn h).symm
        have ub : ∀ j, who[j]? = some p.2.who → j = posW who p.2.who := fun j h => (idxOf_at hn h).symm
        generalize posW who p.1.who = a at *
        generalize posW who p.2.who = b at *
        cases hc3 : ((gAcc who ps).getD a []).contains (b : Int) with
        | true =>
          rw [if_neg (by rw [hc1, hc2]; simp)]
          refine ⟨hri.nodup, fun y => ?_⟩
          rw [hri.mem]
          constructor
          · rintro ⟨k, h1, h2, q, hq, h3⟩
            exact ⟨k, h1, h2, q, by simp [hq], h3⟩
          · rintro ⟨k, h1, h2, q, hq, h3, h4⟩
            rcases List.mem_append.1 hq with hq | hq
            · exact ⟨k, h1, h2, q, hq, h3, h4⟩
            · simp at hq; subst hq
              obtain rfl := ua _ h3
              obtain rfl := ub _ h4
              obtain ⟨k2, e2, r⟩ := (hri.mem _).1 (List.contains_iff_mem.1 hc3)
              obtain rfl : k2 = k := by omega
              exact ⟨k2, h1, r⟩
        | false =>
          have hnb : (b : Int) ∉ (gAcc who ps).getD a [] := fun h => by
            rw [List.contains_iff_mem.2 h] at hc3; cases hc3
          rw [if_pos (by rw [hc1, hc2]; rfl)]
          have hal : a < (gAcc who ps).length := by rw [gAcc_len]; exact ha
          by_cases e : i = a
          · subst e
            have hg : ((gAcc who ps).set i ((gAcc who ps).getD i [] ++ [(b : Int)])).getD i [] = (gAcc who ps).getD i [] ++ [(b : Int)] := by
              simp [List.getD_eq_getElem?_getD, List.getElem?_set_self hal]
            rw [hg]
            refine ⟨List.nodup_append.2 ⟨hri.nodup, by simp, fun x hx y hy e => ?_⟩, fun y => ?_⟩
            · simp at hy; subst hy; subst e; exact hnb hx
            · rw [List.mem_append, List.mem_singleton, hri.mem]
              constructor
              · rintro (⟨k, h1, h2, q, hq, h3⟩ | rfl)
                · exact ⟨k, h1, h2, q, by simp [hq], h3⟩
                · exact ⟨b, rfl, hb, p, by simp, ea, eb⟩
              · rintro ⟨k, h1, h2, q, hq, h3, h4⟩
                rcases List.mem_append.1 hq with hq | hq
                · exact .inl ⟨k, h1, h2, q, hq, h3, h4⟩
                · simp at hq; subst hq
                  obtain rfl := ub _ h4
                  exact .inr h1
          · have hg : ((gAcc who ps).set a ((gAcc who ps).getD a [] ++ [(b : Int)])).getD i [] = (gAcc who ps).getD i [] := by
              simp only [List.getD_eq_getElem?_getD]
              rw [List.getElem?_set_ne (fun h => e h.symm)]
            rw [hg]
            refine ⟨hri.nodup, fun y => ?_⟩
            rw [hri.mem]
            constructor
            · rintro ⟨k, h1, h2, q, hq, h3⟩
              exact ⟨k, h1, h2, q, by simp [hq], h3⟩
            · rintro ⟨k, h1, h2, q, hq, h3, h4⟩
              rcases List.mem_append.1 hq with hq | hq
              · exact ⟨k, h1, h2, q, hq, h3, h4⟩
              · simp at hq; subst hq
                exact absurd (ua _ h3) e
      · rw [if_neg (by simp only [Bool.and_eq_true, Bool.not_eq_true']; exact fun h => hc2 h.1.2)]
        refine ⟨hri.nodup, fun y => ?_⟩
        rw [hri.mem]
        constructor
        · rintro ⟨k, h1, h2, q, hq, h3⟩
          exact ⟨k, h1, h2, q, by simp [hq], h3⟩
        · rintro ⟨k, h1, h2, q, hq, h3, h4⟩
          rcases List.mem_append.1 hq with hq | hq
          · exact ⟨k, h1, h2, q, hq, h3, h4⟩
          · simp at hq; subst hq
            exact absurd (List.contains_iff_mem.2 (List.mem_of_getElem? h4)) hc2
    · rw [if_neg (by simp only [Bool.and_eq_true, Bool.not_eq_true']; exact fun h => hc1 h.1.1)]
      refine ⟨hri.nodup, fun y => ?_⟩
      rw [hri.mem]
      constructor
      · rintro ⟨k, h1, h2, q, hq, h3⟩
        exact ⟨k, h1, h2, q, by simp [hq], h3⟩
      · rintro ⟨k, h1, h2, q, hq, h3, h4⟩
        rcases List.mem_append.1 hq with hq | hq
        · exact ⟨k, h1, h2, q, hq, h3, h4⟩
        · simp at hq; subst hq
          exact absurd (List.contains_iff_mem.2 (List.mem_of_getElem? h3)) hc1
  have all : ∀ (m : Nat) (i : Nat), i < who.length → RowOk who (ps.take m) i ((gAcc who (ps.take m)).getD i []) := by
    intro m
    induction m with
    | zero =>
      intro i hi
      rw [List.take_zero, gAcc_nil]
      refine ⟨by simp [List.getD_eq_getElem?_getD, hi], fun y => ?_⟩
      simp [List.getD_eq_getElem?_getD, hi]
    | succ m ih =>
      intro i hi
      by_cases hm : m < ps.length
      · rw [List.take_succ_eq_append_getElem hm]
        exact this _ ih _ i hi
      · rw [List.take_of_length_le (by omega)]
        have := ih i hi
        rwa [List.take_of_length_le (by omega)] at this
  have := all ps.length i hi
  rwa [List.take_length] at this
theorem RowOk.len {who : List Int} {ps : List Pair} {i : Nat} {row : List Int} (h : RowOk who ps i row) : row.length ≤ who.length := by
  have h1 : (row.map Int.toNat).length ≤ (List.range who.length).length := by
    refine sub_len ?_ fun x hx => ?_
    · rw [List.nodup_iff_pairwise_ne, List.pairwise_map]
      refine (List.nodup_iff_pairwise_ne.1 h.nodup).imp_of_mem ?_
      intro a b ha hb hne
      obtain ⟨k, rfl, _⟩ := (h.mem a).1 ha
      obtain ⟨j, rfl, _⟩ := (h.mem b).1 hb
      intro e
      apply hne
      simp at e; omega
    · obtain ⟨y, hy, rfl⟩ := List.mem_map.1 hx
      obtain ⟨k, rfl, hk, _⟩ := (h.mem y).1 hy
      simpa using hk
  simpa using h1

/-- Sorted rows of different numbers that have the same numbers are the same. -/
theorem sorted_ext : ∀ {a b : List Int}, a.Pairwise (· ≤ ·) → b.Pairwise (· ≤ ·) → a.Nodup → b.Nodup → (∀ x, x ∈ a ↔ x ∈ b) → a = b
  | [], [], _, _, _, _, _ => rfl
  | [], y :: b, _, _, _, _, h => by have := (h y).2 (by simp); cases this
  | x :: a, [], _, _, _, _, h => by have := (h x).1 (by simp); cases this
  | x :: a, y :: b, ha, hb, na, nb, h => by
    obtain ⟨h1, h2⟩ := List.pairwise_cons.1 ha
    obtain ⟨k1, k2⟩ := List.pairwise_cons.1 hb
    obtain ⟨m1, m2⟩ := List.nodup_cons.1 na
    obtain ⟨n1, n2⟩ := List.nodup_cons.1 nb
    have hxy : x = y := by
      have a1 : x ≤ y := by
        rcases List.mem_cons.1 ((h y).2 (by simp)) with e | e
        · omega
        · exact h1 y e
      have a2 : y ≤ x := by
        rcases List.mem_cons.1 ((h x).1 (by simp)) with e | e
        · omega
        · exact k1 x e
      omega
    subst hxy
    congr 1
    refine sorted_ext h2 k2 m2 n2 fun z => ?_
    constructor
    · intro hz
      rcases List.mem_cons.1 ((h z).1 (by simp [hz])) with e | e
      · subst e; exact absurd hz m1
      · exact e
    · intro hz
      rcases List.mem_cons.1 ((h z).2 (by simp [hz])) with e | e
      · subst e; exact absurd hz n1
      · exact e
theorem ints_nodup {l : List Nat} (h : l.Nodup) : (ints l).Nodup := by
  unfold ints
  rw [List.nodup_iff_pairwise_ne, List.pairwise_map]
  exact (List.nodup_iff_pairwise_ne.1 h).imp fun hne e => hne (by omega)
theorem edge_sorted (who : List Int) (ts : List TouchD) (x : Int) : (ints (edgeRow who ts x)).Pairwise (· ≤ ·) ∧ (ints (edgeRow who ts x)).Nodup := by
  constructor
  · unfold ints edgeRow
    rw [List.pairwise_map]
    refine List.Pairwise.sublist List.filter_sublist ?_
    exact List.pairwise_lt_range.imp fun h => by omega
  · exact ints_nodup (List.nodup_range.sublist List.filter_sublist)
/-- A row, sorted, is the document's. -/
theorem row_done {who : List Int} (hn : who.Nodup) {ts : List TouchD} {i : Nat} {x : Int} (hx : who[i]? = some x) : sortZ ((gAcc who (aheadP ts)).getD i []) = ints (edgeRow who ts x) := by
  have hi := (List.getElem?_eq_some_iff.1 hx).1
  have hr := gAcc_row who hn (aheadP ts) i hi
  have he := edge_sorted who ts x
  refine sorted_ext (sortZ_sorted _) he.1 ((sortZ_perm _).nodup_iff.2 hr.nodup) he.2 fun y => ?_
  rw [(sortZ_perm _).mem_iff, hr.mem]
  unfold ints edgeRow
  simp only [List.mem_map, List.mem_filter, List.mem_range]
  constructor
  · rintro ⟨k, rfl, hk, p, hp, h1, h2⟩
    refine ⟨k, ⟨hk, ?_⟩, rfl⟩
    unfold pts
    rw [List.any_eq_true]
    refine ⟨p, hp, ?_⟩
    rw [hx] at h1
    simp only [Option.some.injEq] at h1
    have : who.getD k 0 = p.2.who := by rw [List.getD_eq_getElem?_getD, h2]; rfl
    rw [this, h1]; simp
  · rintro ⟨k, ⟨hk, h1⟩, rfl⟩
    unfold pts at h1
    rw [List.any_eq_true] at h1
    obtain ⟨p, hp, h2⟩ := h1
    simp only [Bool.and_eq_true, beq_iff_eq] at h2
    refine ⟨k, rfl, hk, p, hp, by rw [hx, h2.1], ?_⟩
    rw [List.getElem?_eq_getElem hk, h2.2]
    simp [List.getD_eq_getElem?_getD, hk]
end Go.Proofs.Ytegejcmihojhbaa
