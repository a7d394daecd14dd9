/-
  Was anything touched that one wrote who was undone? No walk.
  No condition.
-/
import Derived.Test.YtegejcmihojhbaaHgFinP
import Derived.Test.YtegejcmihojhbaaHsGInv
namespace Go.Proofs.Ytegejcmihojhbaa
open Go Go.RowKit Go.Maps

def dirtyB (l : List AnsD) (ts : List TouchD) : Bool := (aheadP ts).any fun p => hitW l p.1
def NoHit (l : List AnsD) (ps : List Pair) : Prop := ∀ p ∈ ps, hitW l p.1 = false
theorem NoHit.nil (l : List AnsD) : NoHit l [] := fun p hp => by cases hp
theorem NoHit.snoc {l : List AnsD} {ps : List Pair} {p : Pair} (h : NoHit l ps) (hp : hitW l p.1 = false) : NoHit l (ps ++ [p]) := by
  intro q hq
  rcases List.mem_append.1 hq with hq | hq
  · exact h q hq
  · simp at hq; subst hq; exact hp
theorem NoHit.app {l : List AnsD} {ps qs : List Pair} (h : NoHit l ps) (hq : NoHit l qs) : NoHit l (ps ++ qs) := by
  intro q hm
  rcases List.mem_append.1 hm with hm | hm
  · exact h q hm
  · exact hq q hm
theorem NoHit.done {l : List AnsD} {ts : List TouchD} (h : NoHit l (aheadP ts)) : dirtyB l ts = false := by
  unfold dirtyB
  rw [List.any_eq_false]
  intro p hp
  rw [h p hp]; simp
theorem dirty_yes {l : List AnsD} {ts : List TouchD} {p : Pair} (h : p ∈ aheadP ts) (hw : hitW l p.1 = true) : dirtyB l ts = true := List.any_eq_true.2 ⟨p, h, hw⟩
theorem NoHit.row_next {l : List AnsD} {ts : List TouchD} {b a : TouchD} {m : Nat} (h : NoHit l (rowP ts b m)) (ha : ts[m]? = some a) (hn : (a.wrote && conf a b) = false ∨ hitW l a = false) : NoHit l (rowP ts b (m + 1)) := by
  rw [rowP_succ ha]
  split
  · rename_i hc
    refine h.snoc ?_
    rcases hn with hn | hn
    · rw [hc, Bool.and_true] at hn
      unfold hitW; rw [hn]; rfl
    · exact hn
  · exact h
theorem dirty_at {l : List AnsD} {ts : List TouchD} {b a : TouchD} {i m : Nat} (hb : ts[i]? = some b) (ha : ts[m]? = some a) (hm : m < i) (hc : conf a b = true) (hh : hitW l a = true) : dirtyB l ts = true :=
  dirty_yes (p := (a, b)) (mem_aheadP.2 ⟨i, m, hm, hb, ha, hc⟩) hh
/-- Of the first n answers none that undoes x. -/
def NoBad (l : List AnsD) (n : Nat) (x : Int) : Prop := ∀ a ∈ l.take n, ((a.who == x) && !(a.code == 0)) = false
theorem NoBad.zero (l : List AnsD) (x : Int) : NoBad l 0 x := fun a ha => by simp at ha
theorem NoBad.next {l : List AnsD} {n : Nat} {x : Int} {a : AnsD} (h : NoBad l n x) (ha : l[n]? = some a) (hn : ((a.who == x) && !(a.code == 0)) = false) : NoBad l (n + 1) x := by
  intro b hb
  rw [List.take_add_one, ha] at hb
  rcases List.mem_append.1 hb with hb | hb
  · exact h b hb
  · simp at hb; subst hb; exact hn
theorem NoBad.done {l : List AnsD} {t : TouchD} (h : NoBad l l.length t.who) : hitW l t = false := by
  unfold hitW
  rw [Bool.and_eq_false_iff]
  right
  rw [List.any_eq_false]
  intro a ha
  rw [h a (by rw [List.take_length]; exact ha)]; simp
theorem bad_hit {l : List AnsD} {n : Nat} {t : TouchD} {a : AnsD} (ha : l[n]? = some a) (hw : t.wrote = true) (hn : ((a.who == t.who) && !(a.code == 0)) = true) : hitW l t = true := by
  unfold hitW
  rw [hw, Bool.true_and, List.any_eq_true]
  exact ⟨a, List.mem_of_getElem? ha, hn⟩

/-- How often x was undone, of the first k. -/
def cntB (l : List AnsD) (k : Nat) (x : Int) : Int := (((l.take k).filter fun a => (a.who == x) && !(a.code == 0)).length : Nat)
theorem cntB_succ {l : List AnsD} {k : Nat} {a : AnsD} (h : l[k]? = some a) (x : Int) : cntB l (k + 1) x = if (a.who == x) && !(a.code == 0) then cntB l k x + 1 else cntB l k x := by
  unfold cntB
  rw [List.take_add_one, h, Option.toList_some, List.filter_append, List.length_append]
  cases hc : ((a.who == x) && !(a.code == 0))
  · rw [List.filter_cons_of_neg (by simp only [hc]; simp)]; simp
  · rw [List.filter_cons_of_pos (by simp only [hc])]; simp
theorem cntB_bd (l : List AnsD) (k : Nat) (x : Int) : 0 ≤ cntB l k x ∧ cntB l k x ≤ k := by
  unfold cntB
  have := List.length_filter_le (fun a : AnsD => (a.who == x) && !(a.code == 0)) (l.take k)
  have := List.length_take_le k l
  omega
theorem cntB_pos (l : List AnsD) (x : Int) : decide (0 < cntB l l.length x) = l.any fun a => (a.who == x) && !(a.code == 0) := by
  rw [Bool.eq_iff_iff, decide_eq_true_eq, List.any_eq_true]
  unfold cntB
  rw [List.take_length]
  constructor
  · intro h
    obtain ⟨a, ha⟩ := List.exists_mem_of_length_pos (l := l.filter fun a => (a.who == x) && !(a.code == 0)) (by omega)
    exact ⟨a, (List.mem_filter.1 ha).1, (List.mem_filter.1 ha).2⟩
  · rintro ⟨a, ha, hx⟩
    have := List.length_pos_of_mem (List.mem_filter (p := fun a : AnsD => (a.who == x) && !(a.code == 0)) |>.2 ⟨ha, hx⟩)
    omega
theorem hit_cnt (l : List AnsD) (t : TouchD) : hitW l t = (t.wrote && decide (0 < cntB l l.length t.who)) := by rw [cntB_pos]; rfl
/-- The map, behind the first k. -/
def badOf (l : List AnsD) : Nat → DataW Unit
  | 0 => .map []
  | k + 1 => match l[k]? with
    | some a => if a.code == 0 then badOf l k else (badOf l k).put (.int .i64 a.who) (.lit (.int .i64 (cntB l k a.who + 1)))
    | none => badOf l k
theorem badOf_skip {l : List AnsD} {k : Nat} {a : AnsD} (h : l[k]? = some a) (hc : (a.code == 0) = true) : badOf l (k + 1) = badOf l k := by simp only [badOf, h, hc]; rfl
theorem badOf_put {l : List AnsD} {k : Nat} {a : AnsD} (h : l[k]? = some a) (hc : (a.code == 0) = false) : badOf l (k + 1) = (badOf l k).put (.int .i64 a.who) (.lit (.int .i64 (cntB l k a.who + 1))) := by simp only [badOf, h, hc]; rfl
theorem badOf_isMap (l : List AnsD) (k : Nat) : IsMap (badOf l k) := by
  induction k with
  | zero => exact ⟨[], rfl⟩
  | succ k ih =>
    unfold badOf
    split
    · split
      · exact ih
      · exact ih.put _ _
    · exact ih
theorem badOf_at (l : List AnsD) (k : Nat) (x : Int) (hk : k ≤ l.length) : (badOf l k).atKey (.int .i64 x) (.lit (.int .i64 0)) = .lit (.int .i64 (cntB l k x)) := by
  induction k with
  | zero => rfl
  | succ k ih =>
    have hg := List.getElem?_eq_getElem (show k < l.length by omega)
    generalize l[k] = a at hg
    rw [cntB_succ hg]
    cases hc : (a.code == 0) with
    | true => rw [badOf_skip hg hc, ih (by omega)]; simp
    | false =>
      rw [badOf_put hg hc]
      by_cases e : x = a.who
      · subst e
        rw [atKey_put_same (badOf_isMap l k) (k := .int .i64 a.who) trivial]
        simp
      · rw [atKey_put_other (lit_ne e), ih (by omega)]
        have : (a.who == x) = false := by rw [beq_eq_false_iff_ne]; exact fun h => e h.symm
        rw [this]; rfl
end Go.Proofs.Ytegejcmihojhbaa
