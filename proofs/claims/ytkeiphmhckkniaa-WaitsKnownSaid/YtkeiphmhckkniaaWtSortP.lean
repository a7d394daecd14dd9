/-
  Nodes sorted by counting who points to them: plain Lean.
  No condition.
-/
import Derived.Test.YtkeiphmhckkniaaWtFarP
import Derived.Test.YtkeiphmhckkniaaWtHeapP
namespace Go.Proofs.Ytkeiphmhckkniaa
open Go Go.RowKit

def incI (d : Int) (L : List Int) (y : Int) : List Int := L.set y.toNat (L.getD y.toNat 0 + d)
def rowI (d : Int) (l : List Int) (L : List Int) : List Int := l.foldl (incI d) L
theorem incI_len (d : Int) (L : List Int) (y : Int) : (incI d L y).length = L.length := by simp [incI]
theorem rowI_len (d : Int) : ∀ (l L : List Int), (rowI d l L).length = L.length
  | [], _ => rfl
  | y :: l, L => by show (rowI d l (incI d L y)).length = _; rw [rowI_len d l, incI_len]
theorem rowI_snoc (d : Int) (l L : List Int) (y : Int) : rowI d (l ++ [y]) L = incI d (rowI d l L) y := by simp [rowI]
theorem incI_getD {d : Int} {L : List Int} {y : Int} {k : Nat} (hy : 0 ≤ y ∧ y < L.length) : (incI d L y).getD k 0 = L.getD k 0 + if (k : Int) = y then d else 0 := by
  unfold incI
  rw [getD_set (by omega)]
  by_cases e : k = y.toNat
  · rw [if_pos e, if_pos (by omega), e]
  · rw [if_neg e, if_neg (by omega), Int.add_zero]
theorem rowI_getD {d : Int} : ∀ {l L : List Int} {k : Nat}, (∀ y ∈ l, 0 ≤ y ∧ y < L.length) → l.Nodup → (rowI d l L).getD k 0 = L.getD k 0 + if (k : Int) ∈ l then d else 0
  | [], L, k, _, _ => by simp [rowI]
  | y :: l, L, k, h, hn => by
    obtain ⟨h1, h2⟩ := List.nodup_cons.1 hn
    show (rowI d l (incI d L y)).getD k 0 = _
    rw [rowI_getD (fun z hz => by rw [incI_len]; exact h z (by simp [hz])) h2, incI_getD (h y (by simp)), Int.add_assoc]
    congr 1
    by_cases e : (k : Int) = y
    · rw [if_pos e, if_neg (by rw [e]; exact h1), if_pos (by simp [e]), Int.add_zero]
    · rw [if_neg e, Int.zero_add]
      by_cases e2 : (k : Int) ∈ l
      · rw [if_pos e2, if_pos (by simp [e2])]
      · rw [if_neg e2, if_neg (by simp [e, e2])]
/-- How many of the first m point to each. -/
def leftGo (G : List (List Int)) (m : Nat) : List Int := (List.range m).foldl (fun L i => rowI 1 (ofP G i) L) (List.replicate G.length 0)
theorem leftGo_succ (G : List (List Int)) (m : Nat) : leftGo G (m + 1) = rowI 1 (ofP G m) (leftGo G m) := by simp [leftGo, List.range_succ]
theorem leftGo_len (G : List (List Int)) (m : Nat) : (leftGo G m).length = G.length := by
  induction m with
  | zero => simp [leftGo]
  | succ m ih => rw [leftGo_succ, rowI_len, ih]
/-- How many that are not out point to it. -/
def leftP (G : List (List Int)) (out : List Nat) (k : Nat) : Nat := ((List.range G.length).filter fun i => !out.contains i && sees G i k).length
theorem sees_dec {G : List (List Int)} {i k : Nat} (hk : k < G.length) : (if (k : Int) ∈ ofP G i then (1 : Int) else 0) = if sees G i k = true then 1 else 0 := by
  by_cases h : sees G i k = true
  · rw [if_pos h, if_pos ((sees_ofP hk).2 h)]
  · rw [if_neg h, if_neg fun h2 => h ((sees_ofP hk).1 h2)]
theorem leftGo_getD {G : List (List Int)} {k : Nat} (hk : k < G.length) (m : Nat) : (leftGo G m).getD k 0 = (((List.range m).filter fun i => sees G i k).length : Int) := by
  induction m with
  | zero => simp [leftGo, List.getD_eq_getElem?_getD, hk]
  | succ m ih =>
    rw [leftGo_succ, rowI_getD (by rw [leftGo_len]; exact ofP_in) (ofP_nodup G m), ih, sees_dec hk, List.range_succ, List.filter_append, List.length_append]
    by_cases h : sees G m k = true
    · rw [if_pos h]; simp [h]
    · rw [if_neg h]; simp [h]
theorem leftGo_all {G : List (List Int)} {k : Nat} (hk : k < G.length) : (leftGo G G.length).getD k 0 = (leftP G [] k : Int) := by
  rw [leftGo_getD hk]; unfold leftP; simp
theorem leftP_zero {G : List (List Int)} {out : List Nat} {k : Nat} : leftP G out k = 0 ↔ ∀ i, i < G.length → i ∈ out ∨ sees G i k = false := by
  unfold leftP
  rw [List.length_eq_zero_iff, List.filter_eq_nil_iff]
  simp only [List.mem_range, Bool.and_eq_true, Bool.not_eq_true', not_and, Bool.not_eq_true]
  refine forall_congr' fun i => forall_congr' fun _ => ?_
  constructor
  · intro h
    by_cases e : i ∈ out
    · exact .inl e
    · exact .inr (h (by rw [← Bool.not_eq_true, List.contains_iff_mem]; exact e))
  · rintro (h | h) h2
    · rw [List.contains_iff_mem.2 h] at h2; cases h2
    · exact h
theorem mem_nextL {G : List (List Int)} {out : List Nat} {k : Nat} : k ∈ nextO G out ↔ k < G.length ∧ k ∉ out ∧ leftP G out k = 0 := by rw [mem_nextO, leftP_zero]
theorem filter_drop {G : List (List Int)} {out : List Nat} {x k : Nat} : ∀ (l : List Nat), l.Nodup → x ∉ out → (((l.filter fun i => !out.contains i && sees G i k).length : Nat) : Int) = ((l.filter fun i => !(out ++ [x]).contains i && sees G i k).length : Int) + if x ∈ l ∧ sees G x k = true then 1 else 0
  | [], _, _ => by simp
  | y :: l, hn, hx => by
    obtain ⟨h1, h2⟩ := List.nodup_cons.1 hn
    have ih := filter_drop (G := G) (out := out) (x := x) (k := k) l h2 hx
    by_cases e : y = x
    · subst e
      have c1 : out.contains y = false := by rw [← Bool.not_eq_true, List.contains_iff_mem]; exact hx
      have c2 : (out ++ [y]).contains y = true := List.contains_iff_mem.2 (by simp)
      rw [if_neg (fun h => h1 h.1)] at ih
      by_cases hs : sees G y k = true
      · have d1 : (!out.contains y && sees G y k) = true := by rw [c1, hs]; rfl
        have d2 : (!(out ++ [y]).contains y && sees G y k) = false := by rw [c2, hs]; rfl
        rw [if_pos ⟨by simp, hs⟩]
        simp only [List.filter_cons, d1, d2, if_true, Bool.false_eq_true, if_false, List.length_cons]
        omega
      · have hs2 : sees G y k = false := by simpa using hs
        rw [if_neg (fun h => hs h.2)]
        simp only [List.filter_cons, hs2, Bool.and_false, Bool.false_eq_true, if_false]
        exact ih
    · have c2 : (out ++ [x]).contains y = out.contains y := by
        rw [Bool.eq_iff_iff, List.contains_iff_mem, List.contains_iff_mem]
        simp [e]
      have c3 : (if x ∈ y :: l ∧ sees G x k = true then (1 : Int) else 0) = if x ∈ l ∧ sees G x k = true then 1 else 0 := by
        congr 1
        simp only [List.mem_cons, eq_iff_iff]
        constructor
        · rintro ⟨h | h, h3⟩
          · exact absurd h.symm e
          · exact ⟨h, h3⟩
        · exact fun h => ⟨.inr h.1, h.2⟩
      rw [c3]
      cases hb : (!out.contains y && sees G y k) with
      | true =>
        have d2 : (!(out ++ [x]).contains y && sees G y k) = true := by rw [c2]; exact hb
        simp only [List.filter_cons, hb, d2, if_true, List.length_cons]
        omega
      | false =>
        have d2 : (!(out ++ [x]).contains y && sees G y k) = false := by rw [c2]; exact hb
        simp only [List.filter_cons, hb, d2, Bool.false_eq_true, if_false]
        exact ih
theorem leftP_snoc {G : List (List Int)} {out : List Nat} {x k : Nat} (hx : x ∉ out) (hl : x < G.length) : (leftP G out k : Int) = (leftP G (out ++ [x]) k : Int) + if sees G x k = true then 1 else 0 := by
  have h := filter_drop (G := G) (k := k) (List.range G.length) List.nodup_range hx
  unfold leftP
  rw [h]
  congr 2
  simp only [List.mem_range, eq_iff_iff]
  exact ⟨fun h => h.2, fun h => ⟨hl, h⟩⟩
/-- Where the program stands between two nodes: H is the heap, L the counts. -/
structure SQ (G : List (List Int)) (out : List Nat) (H L : List Int) : Prop where
  okay : Okay G.length out
  len : L.length = G.length
  left : ∀ k, k < G.length → L.getD k 0 = (leftP G out k : Int)
  done : ∀ k, k ∈ out → leftP G out k = 0
  nodup : H.Nodup
  mem : ∀ x, x ∈ H ↔ ∃ k : Nat, x = (k : Int) ∧ k ∈ nextO G out
  go : orderGo G [] (G.length - out.length) out = orderP G []
/-- While those to which x points are gone over. -/
structure SI (G : List (List Int)) (out : List Nat) (x : Nat) (pre H L : List Int) : Prop where
  len : L.length = G.length
  left : ∀ k, k < G.length → L.getD k 0 = (leftP G out k : Int) + if (k : Int) ∈ pre then -1 else 0
  nodup : H.Nodup
  mem : ∀ y, y ∈ H ↔ ∃ k : Nat, y = (k : Int) ∧ ((k ∈ nextO G out ∧ k ≠ x) ∨ (y ∈ pre ∧ L.getD k 0 = 0))
theorem nextO_sorted (G : List (List Int)) (out : List Nat) : (nextO G out).Pairwise (· < ·) := (List.pairwise_lt_range).filter _
theorem next_head {G : List (List Int)} {out : List Nat} {x : Nat} (hx : x ∈ nextO G out) (hm : ∀ k, k ∈ nextO G out → x ≤ k) : (nextO G out).getD 0 0 = x := by
  have hs := nextO_sorted G out
  cases hN : nextO G out with
  | nil => rw [hN] at hx; cases hx
  | cons y l =>
    rw [hN] at hx hm hs
    have h1 := hm y (by simp)
    rcases List.mem_cons.1 hx with rfl | hx
    · rfl
    · have := (List.pairwise_cons.1 hs).1 x hx
      omega
theorem SQ.stop {G : List (List Int)} {out : List Nat} {L : List Int} (h : SQ G out [] L) : orderP G [] = out := by
  have hn : nextO G out = [] := by
    cases hN : nextO G out with
    | nil => rfl
    | cons y l =>
      have := (h.mem (y : Int)).2 ⟨y, rfl, by rw [hN]; simp⟩
      cases this
  rw [← h.go]
  cases G.length - out.length with
  | zero => rfl
  | succ f => unfold orderGo; rw [hn]; rfl
/-- A node is taken. -/
theorem SQ.pop {G : List (List Int)} {out : List Nat} {H L H' : List Int} {x : Int} (h : SQ G out H L) (hp : (x :: H').Perm H) (hm : ∀ y ∈ H, x ≤ y) :
    ∃ k : Nat, x = (k : Int) ∧ k < G.length ∧ k ∈ nextO G out ∧ out.length < G.length ∧ orderGo G [] (G.length - (out ++ [k]).length) (out ++ [k]) = orderP G [] ∧ SI G out k [] H' L := by
  have hx : x ∈ H := hp.mem_iff.1 (by simp)
  obtain ⟨k, rfl, hk⟩ := (h.mem x).1 hx
  have hkm := mem_nextO.1 hk
  have hlt : out.length < G.length := by
    have h2 := h.okay.snoc hk
    have := h2.len
    simp at this; omega
  have hhead : (nextO G out).getD 0 0 = k := next_head hk fun j hj => by
    have := hm (j : Int) ((h.mem _).2 ⟨j, rfl, hj⟩)
    omega
  have hne : (nextO G out).length ≠ 0 := fun e => by rw [List.eq_nil_of_length_eq_zero e] at hk; cases hk
  have hnd : ((k : Int) :: H').Nodup := hp.nodup_iff.2 h.nodup
  obtain ⟨hk1, hk2⟩ := List.nodup_cons.1 hnd
  refine ⟨k, rfl, hkm.1, hk, hlt, ?_, ⟨h.len, fun j hj => by rw [h.left j hj]; simp, hk2, fun y => ?_⟩⟩
  · have hgo := h.go
    obtain ⟨f, hf⟩ : ∃ f, G.length - out.length = f + 1 := ⟨G.length - out.length - 1, by omega⟩
    rw [hf] at hgo
    unfold orderGo at hgo
    rw [if_neg hne] at hgo
    have e0 : pickAt [] out.length (nextO G out).length = 0 := by simp [pickAt]
    rw [e0, hhead] at hgo
    rw [← hgo]
    congr 1
    simp; omega
  · constructor
    · intro hy
      have h2 : y ∈ H := hp.mem_iff.1 (List.mem_cons_of_mem _ hy)
      obtain ⟨j, rfl, hj⟩ := (h.mem y).1 h2
      exact ⟨j, rfl, .inl ⟨hj, fun e => hk1 (by rw [← e]; exact hy)⟩⟩
    · rintro ⟨j, rfl, ⟨hj, hne⟩ | ⟨hj, _⟩⟩
      · have h2 : (j : Int) ∈ (k : Int) :: H' := hp.mem_iff.2 ((h.mem _).2 ⟨j, rfl, hj⟩)
        rcases List.mem_cons.1 h2 with h3 | h3
        · omega
        · exact h3
      · cases hj
/-- One more that x points to: not yet to be taken, or to be taken. -/
theorem SI.step {G : List (List Int)} {out : List Nat} {x j : Nat} {pre H L : List Int} (h : SI G out x pre H L) (hx : x ∈ nextO G out) (hj : j < G.length) (hs : sees G x j = true) (hn : (j : Int) ∉ pre) :
    (L.getD j 0 - 1 ≠ 0 → SI G out x (pre ++ [(j : Int)]) H (L.set j (L.getD j 0 - 1))) ∧
    (L.getD j 0 - 1 = 0 → ∀ H', H'.Perm ((j : Int) :: H) → SI G out x (pre ++ [(j : Int)]) H' (L.set j (L.getD j 0 - 1))) := by
  have hxm := mem_nextO.1 hx
  have hjn : j ∉ nextO G out := fun hm => by
    rcases (mem_nextO.1 hm).2.2 x hxm.1 with h1 | h1
    · exact hxm.2.1 h1
    · rw [hs] at h1; cases h1
  have hjl : j < L.length := by rw [h.len]; exact hj
  have hjH : (j : Int) ∉ H := fun hm => by
    obtain ⟨k, e, h1 | h1⟩ := (h.mem _).1 hm
    · obtain rfl : j = k := by omega
      exact hjn h1.1
    · exact hn h1.1
  have hleft : ∀ k, k < G.length → (L.set j (L.getD j 0 - 1)).getD k 0 = (leftP G out k : Int) + if (k : Int) ∈ pre ++ [(j : Int)] then -1 else 0 := fun k hk => by
    rw [getD_set hjl]
    by_cases e : k = j
    · subst e
      rw [if_pos rfl, h.left k hk, if_neg hn, if_pos (by simp)]; omega
    · rw [if_neg e, h.left k hk]
      congr 1
      have : (k : Int) ∈ pre ++ [(j : Int)] ↔ (k : Int) ∈ pre := by simp; omega
      by_cases e2 : (k : Int) ∈ pre
      · rw [if_pos e2, if_pos (this.2 e2)]
      · rw [if_neg e2, if_neg (fun h => e2 (this.1 h))]
  have key : ∀ y, (∃ k : Nat, y = (k : Int) ∧ ((k ∈ nextO G out ∧ k ≠ x) ∨ (y ∈ pre ++ [(j : Int)] ∧ (L.set j (L.getD j 0 - 1)).getD k 0 = 0))) ↔ (y ∈ H ∨ (y = (j : Int) ∧ L.getD j 0 - 1 = 0)) := fun y => by
    rw [h.mem y]
    constructor
    · rintro ⟨k, rfl, h1 | ⟨h1, h2⟩⟩
      · exact .inl ⟨k, rfl, .inl h1⟩
      · rw [getD_set hjl] at h2
        by_cases e : k = j
        · rw [if_pos e] at h2
          exact .inr ⟨by rw [e], h2⟩
        · rw [if_neg e] at h2
          refine .inl ⟨k, rfl, .inr ⟨?_, h2⟩⟩
          rcases List.mem_append.1 h1 with h1 | h1
          · exact h1
          · simp at h1; omega
    · rintro (⟨k, rfl, h1 | ⟨h1, h2⟩⟩ | ⟨rfl, h2⟩)
      · exact ⟨k, rfl, .inl h1⟩
      · refine ⟨k, rfl, .inr ⟨List.mem_append_left _ h1, ?_⟩⟩
        rw [getD_set hjl, if_neg (fun e => hn (by rw [← e]; exact h1))]; exact h2
      · refine ⟨j, rfl, .inr ⟨by simp, ?_⟩⟩
        rw [getD_set hjl, if_pos rfl]; exact h2
  refine ⟨fun h0 => ⟨by simp [h.len], hleft, h.nodup, fun y => ?_⟩, fun h0 H' hp => ⟨by simp [h.len], hleft, hp.nodup_iff.2 (List.nodup_cons.2 ⟨hjH, h.nodup⟩), fun y => ?_⟩⟩
  · rw [key y]
    exact ⟨.inl, fun h1 => h1.elim id fun h1 => absurd h1.2 h0⟩
  · rw [key y, hp.mem_iff, List.mem_cons]
    constructor
    · rintro (h1 | h1)
      · exact .inr ⟨h1, h0⟩
      · exact .inl h1
    · rintro (h1 | h1)
      · exact .inr h1
      · exact .inl h1.1
/-- All that x points to are gone over. -/
theorem SI.done {G : List (List Int)} {out : List Nat} {x : Nat} {H L H0 L0 : List Int} (h : SI G out x (ofP G x) H L) (hq : SQ G out H0 L0) (hx : x ∈ nextO G out) (hg : orderGo G [] (G.length - (out ++ [x]).length) (out ++ [x]) = orderP G []) : SQ G (out ++ [x]) H L := by
  have hxm := mem_nextO.1 hx
  have hleft : ∀ k, k < G.length → L.getD k 0 = (leftP G (out ++ [x]) k : Int) := fun k hk => by
    rw [h.left k hk, leftP_snoc (k := k) hxm.2.1 hxm.1]
    by_cases e : sees G x k = true
    · rw [if_pos e, if_pos ((sees_ofP hk).2 e)]; omega
    · rw [if_neg e, if_neg (fun h => e ((sees_ofP hk).1 h))]; omega
  refine ⟨hq.okay.snoc hx, h.len, hleft, fun k hk => ?_, h.nodup, fun y => ?_, hg⟩
  · have e2 := leftP_snoc (k := k) hxm.2.1 hxm.1
    rcases List.mem_append.1 hk with hk | hk
    · have e1 := hq.done k hk
      split at e2 <;> omega
    · rw [List.mem_singleton.1 hk] at e2 ⊢
      have e1 := (mem_nextL.1 hx).2.2
      split at e2 <;> omega
  · rw [h.mem y]
    refine exists_congr fun k => and_congr_right fun e => ?_
    subst e
    rw [mem_nextL (out := out ++ [x])]
    constructor
    · rintro (⟨h1, h2⟩ | ⟨h1, h2⟩)
      · have h3 := mem_nextL.1 h1
        have e2 := leftP_snoc (k := k) hxm.2.1 hxm.1
        refine ⟨h3.1, by simp [h3.2.1, h2], ?_⟩
        split at e2 <;> omega
      · have hk := (mem_ofP.1 h1).2.2
        have hk : k < G.length := by omega
        have hs := (sees_ofP hk).1 h1
        have e2 := leftP_snoc (k := k) hxm.2.1 hxm.1
        rw [if_pos hs] at e2
        refine ⟨hk, fun hm => ?_, by have := hleft k hk; omega⟩
        rcases List.mem_append.1 hm with hm | hm
        · have := hq.done k hm; omega
        · rw [List.mem_singleton.1 hm] at e2
          have := (mem_nextL.1 hx).2.2
          omega
    · rintro ⟨h1, h2, h3⟩
      have e2 := leftP_snoc (k := k) hxm.2.1 hxm.1
      simp only [List.mem_append, List.mem_singleton, not_or] at h2
      by_cases hs : sees G x k = true
      · exact .inr ⟨(sees_ofP h1).2 hs, by rw [hleft k h1]; omega⟩
      · rw [if_neg hs] at e2
        exact .inl ⟨mem_nextL.2 ⟨h1, h2.1, by omega⟩, h2.2⟩
/-- The heap while the first m are looked at. -/
structure SB (L : List Int) (m : Nat) (H : List Int) : Prop where
  nodup : H.Nodup
  mem : ∀ y, y ∈ H ↔ ∃ k : Nat, y = (k : Int) ∧ k < m ∧ L.getD k 0 = 0
theorem SB.nil (L : List Int) : SB L 0 [] := ⟨List.Pairwise.nil, fun y => ⟨fun h => (by cases h), fun ⟨k, _, h, _⟩ => (by omega)⟩⟩
theorem SB.skip {L : List Int} {m : Nat} {H : List Int} (h : SB L m H) (hm : L.getD m 0 ≠ 0) : SB L (m + 1) H := ⟨h.nodup, fun y => by
  rw [h.mem y]
  refine exists_congr fun k => and_congr_right fun _ => ?_
  constructor
  · exact fun h => ⟨by omega, h.2⟩
  · rintro ⟨h1, h2⟩
    refine ⟨?_, h2⟩
    by_cases e : k = m
    · rw [e] at h2; exact absurd h2 hm
    · omega⟩
theorem SB.push {L : List Int} {m : Nat} {H H' : List Int} (h : SB L m H) (hm : L.getD m 0 = 0) (hp : H'.Perm ((m : Int) :: H)) : SB L (m + 1) H' := by
  refine ⟨hp.nodup_iff.2 (List.nodup_cons.2 ⟨fun hk => ?_, h.nodup⟩), fun y => ?_⟩
  · obtain ⟨k, e, hk, _⟩ := (h.mem _).1 hk
    omega
  · rw [hp.mem_iff, List.mem_cons, h.mem y]
    constructor
    · rintro (rfl | ⟨k, rfl, h1, h2⟩)
      · exact ⟨m, rfl, by omega, hm⟩
      · exact ⟨k, rfl, by omega, h2⟩
    · rintro ⟨k, rfl, h1, h2⟩
      by_cases e : k = m
      · exact .inl (by rw [e])
      · exact .inr ⟨k, rfl, by omega, h2⟩
theorem SB.start {G : List (List Int)} {H : List Int} (h : SB (leftGo G G.length) G.length H) : SQ G [] H (leftGo G G.length) := by
  refine ⟨⟨List.Pairwise.nil, fun _ h => by cases h⟩, leftGo_len G _, fun k hk => leftGo_all hk, (fun _ h => by cases h), h.nodup, fun y => ?_, rfl⟩
  rw [h.mem y]
  refine exists_congr fun k => and_congr_right fun _ => ?_
  rw [mem_nextL]
  constructor
  · rintro ⟨h1, h2⟩
    rw [leftGo_all h1] at h2
    exact ⟨h1, by simp, by omega⟩
  · rintro ⟨h1, _, h2⟩
    exact ⟨h1, by rw [leftGo_all h1]; omega⟩
theorem SB.len {L : List Int} {m : Nat} {H : List Int} (h : SB L m H) : H.length ≤ m := by
  have h1 : (H.map Int.toNat).Nodup := by
    unfold List.Nodup
    rw [List.pairwise_map]
    refine h.nodup.imp_of_mem fun {a b} ha hb hne e => hne ?_
    obtain ⟨k, rfl, _⟩ := (h.mem a).1 ha
    obtain ⟨k2, rfl, _⟩ := (h.mem b).1 hb
    simp at e; omega
  have := sub_len h1 (m := List.range m) fun x hx => by
    obtain ⟨a, ha, rfl⟩ := List.mem_map.1 hx
    obtain ⟨k, rfl, hk, _⟩ := (h.mem a).1 ha
    exact List.mem_range.2 (by omega)
  simpa using this
theorem SI.few {G : List (List Int)} {out : List Nat} {x : Nat} {pre H L : List Int} (h : SI G out x pre H L) (hpre : ∀ y ∈ pre, 0 ≤ y ∧ y < G.length) : H.length ≤ G.length := by
  have h0 : ∀ y ∈ H, ∃ k : Nat, y = (k : Int) ∧ k < G.length := fun y hy => by
    obtain ⟨k, rfl, h1 | h1⟩ := (h.mem y).1 hy
    · exact ⟨k, rfl, (mem_nextO.1 h1.1).1⟩
    · have := hpre _ h1.1
      exact ⟨k, rfl, by omega⟩
  have h1 : (H.map Int.toNat).Nodup := by
    unfold List.Nodup
    rw [List.pairwise_map]
    refine h.nodup.imp_of_mem fun {a b} ha hb hne e => hne ?_
    obtain ⟨k, rfl, _⟩ := h0 a ha
    obtain ⟨k2, rfl, _⟩ := h0 b hb
    simp at e; omega
  have := sub_len h1 (m := List.range G.length) fun x hx => by
    obtain ⟨a, ha, rfl⟩ := List.mem_map.1 hx
    obtain ⟨k, rfl, hk⟩ := h0 a ha
    exact List.mem_range.2 (by omega)
  simpa using this
end Go.Proofs.Ytkeiphmhckkniaa
