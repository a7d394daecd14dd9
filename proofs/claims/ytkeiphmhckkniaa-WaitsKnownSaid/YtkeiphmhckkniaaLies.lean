/-
  Things that lie apart from each other in memory, all laid by the call itself; no program in sight.
  No condition.
-/
import Derived.Test.YtkeiphmhckkniaaMem
namespace Go.Proofs.Ytkeiphmhckkniaa
open Go Go.RowKit

/-- What lies in blocks of its own. -/
structure Thing where
  At : World → (Nat → Prop) → Prop
  fr : ∀ {w w' : World} {S T : Nat → Prop}, At w S → Fr w w' T → (∀ k, S k → ¬ T k) → At w' S
  lt : ∀ {w : World} {S : Nat → Prop}, At w S → ∀ k, S k → k < w.heap.size
def Lies (w0 W : World) (l : List Thing) : Prop :=
  Fr w0 W Nil ∧ ∃ F : Nat → Nat → Prop, (∀ i x, l[i]? = some x → x.At W (F i) ∧ ∀ k, F i k → w0.heap.size ≤ k) ∧ ∀ i j, i < l.length → j < l.length → i ≠ j → ∀ k, F i k → ¬ F j k
theorem Lies.nil {w0 W : World} (h : Fr w0 W Nil) : Lies w0 W [] := ⟨h, fun _ _ => False, (fun i x hx => by simp at hx), fun i j hi => by simp at hi⟩
theorem Lies.fr {w0 W : World} {l : List Thing} (h : Lies w0 W l) : Fr w0 W Nil := h.1
theorem Lies.fr0 {w0 W W' : World} {l : List Thing} (h : Lies w0 W l) (hf : Fr W W' Nil) : Lies w0 W' l := by
  obtain ⟨h1, F, h2, h3⟩ := h
  exact ⟨h1.trans0 hf, F, fun i x hx => ⟨x.fr (h2 i x hx).1 hf fun _ _ h => h, (h2 i x hx).2⟩, h3⟩
theorem Lies.add {w0 W W' : World} {l : List Thing} (h : Lies w0 W l) (x : Thing) {S : Nat → Prop} (hx : x.At W' S) (hS : ∀ k, S k → W.heap.size ≤ k) (hf : Fr W W' Nil) : Lies w0 W' (l ++ [x]) := by
  have hsz := h.1.size
  obtain ⟨h1, F, h2, h3⟩ := h
  have hlt : ∀ i, i < l.length → ∀ k, F i k → k < W.heap.size := fun i hi k hk => l[i].lt (h2 i _ (List.getElem?_eq_getElem hi)).1 k hk
  refine ⟨h1.trans0 hf, fun i => if i = l.length then S else F i, fun i y hy => ?_, fun i j hi hj hij k => ?_⟩
  · have hi := (List.getElem?_eq_some_iff.1 hy).1
    rw [List.length_append, List.length_singleton] at hi
    dsimp only
    by_cases e : i = l.length
    · subst e
      rw [if_pos rfl]
      rw [List.getElem?_append_right (Nat.le_refl _), Nat.sub_self] at hy
      cases hy
      exact ⟨hx, fun k hk => Nat.le_trans hsz (hS k hk)⟩
    · rw [if_neg e]
      rw [List.getElem?_append_left (by omega)] at hy
      exact ⟨y.fr (h2 i y hy).1 hf fun _ _ h => h, (h2 i y hy).2⟩
  · simp only [List.length_append, List.length_singleton] at hi hj
    dsimp only
    by_cases e : i = l.length
    · rw [if_pos e, if_neg (by omega)]
      intro h1 h2
      have := hS k h1
      have := hlt j (by omega) k h2
      omega
    · rw [if_neg e]
      by_cases e2 : j = l.length
      · rw [if_pos e2]
        intro h1 h2
        have := hS k h2
        have := hlt i (by omega) k h1
        omega
      · rw [if_neg e2]
        exact h3 i j (by omega) (by omega) hij k
theorem Lies.take {w0 W : World} {l : List Thing} (h : Lies w0 W l) (n : Nat) : Lies w0 W (l.take n) := by
  obtain ⟨h1, F, h2, h3⟩ := h
  refine ⟨h1, F, fun i x hx => h2 i x ?_, fun i j hi hj => h3 i j ?_ ?_⟩
  · rw [List.getElem?_take] at hx
    split at hx
    · exact hx
    · cases hx
  · rw [List.length_take] at hi; omega
  · rw [List.length_take] at hj; omega
theorem Lies.get {w0 W : World} {l : List Thing} (h : Lies w0 W l) (i : Nat) (x : Thing) (hi : l[i]? = some x) :
    ∃ S, x.At W S ∧ (∀ k, S k → w0.heap.size ≤ k) ∧ ∀ (W' : World) (S' : Nat → Prop) (x' : Thing), x'.At W' S' → (∀ k, S' k → S k ∨ W.heap.size ≤ k) → Fr W W' S → Lies w0 W' (l.set i x') := by
  have hsz := h.1.size
  obtain ⟨h1, F, h2, h3⟩ := h
  have hlt : ∀ i, i < l.length → ∀ k, F i k → k < W.heap.size := fun i hi k hk => l[i].lt (h2 i _ (List.getElem?_eq_getElem hi)).1 k hk
  have hil := (List.getElem?_eq_some_iff.1 hi).1
  refine ⟨F i, (h2 i x hi).1, (h2 i x hi).2, fun W' S' x' hx hS hf => ⟨h1.trans hf fun k hk hs => by have := (h2 i x hi).2 k hs; omega, fun j => if j = i then S' else F j, fun j y hy => ?_, fun a b ha hb hab k => ?_⟩⟩
  · dsimp only
    by_cases e : j = i
    · subst e
      rw [if_pos rfl]
      rw [List.getElem?_set_self hil] at hy
      cases hy
      exact ⟨hx, fun k hk => (hS k hk).elim ((h2 j x hi).2 k) fun h => Nat.le_trans hsz h⟩
    · rw [if_neg e]
      rw [List.getElem?_set_ne (fun h => e h.symm)] at hy
      have hj := (List.getElem?_eq_some_iff.1 hy).1
      exact ⟨y.fr (h2 j y hy).1 hf fun k hk hk2 => h3 j i hj hil e k hk hk2, (h2 j y hy).2⟩
  · rw [List.length_set] at ha hb
    dsimp only
    by_cases e : a = i
    · rw [if_pos e, if_neg (by omega)]
      intro q1 q2
      rcases hS k q1 with q | q
      · exact h3 i b hil hb (by omega) k q q2
      · have := hlt b hb k q2; omega
    · rw [if_neg e]
      by_cases e2 : b = i
      · rw [if_pos e2]
        intro q1 q2
        rcases hS k q2 with q | q
        · exact h3 a i ha hil e k q1 q
        · have := hlt a ha k q1; omega
      · rw [if_neg e2]
        exact h3 a b ha hb hab k
/-- Two of them, the call having turned both. -/
theorem Lies.get2 {w0 W : World} {l : List Thing} (h : Lies w0 W l) (i j : Nat) (x y : Thing) (hi : l[i]? = some x) (hj : l[j]? = some y) (hij : i ≠ j) :
    ∃ S T, x.At W S ∧ y.At W T ∧ (∀ k, S k → ¬ T k) ∧ ∀ (W' : World) (S' T' : Nat → Prop) (x' y' : Thing), x'.At W' S' → y'.At W' T' → (∀ k, S' k → S k ∨ W.heap.size ≤ k) → (∀ k, T' k → T k ∨ W.heap.size ≤ k) → (∀ k, S' k → ¬ T' k) → Fr W W' (fun k => S k ∨ T k) → Lies w0 W' ((l.set i x').set j y') := by
  have hsz := h.1.size
  obtain ⟨h1, F, h2, h3⟩ := h
  have hlt : ∀ i, i < l.length → ∀ k, F i k → k < W.heap.size := fun i hi k hk => l[i].lt (h2 i _ (List.getElem?_eq_getElem hi)).1 k hk
  have hil := (List.getElem?_eq_some_iff.1 hi).1
  have hjl := (List.getElem?_eq_some_iff.1 hj).1
  refine ⟨F i, F j, (h2 i x hi).1, (h2 j y hj).1, h3 i j hil hjl hij, fun W' S' T' x' y' hx hy hS hT hST hf => ⟨h1.trans hf fun k hk hs => ?_, fun m => if m = j then T' else if m = i then S' else F m, fun m z hz => ?_, fun a b ha hb hab k => ?_⟩⟩
  · rcases hs with hs | hs
    · have := (h2 i x hi).2 k hs; omega
    · have := (h2 j y hj).2 k hs; omega
  · dsimp only
    by_cases e : m = j
    · subst e
      rw [if_pos rfl]
      rw [List.getElem?_set_self (by rw [List.length_set]; exact hjl)] at hz
      cases hz
      exact ⟨hy, fun k hk => (hT k hk).elim ((h2 m y hj).2 k) fun h => Nat.le_trans hsz h⟩
    · rw [if_neg e]
      rw [List.getElem?_set_ne (fun h => e h.symm)] at hz
      by_cases e2 : m = i
      · subst e2
        rw [if_pos rfl]
        rw [List.getElem?_set_self hil] at hz
        cases hz
        exact ⟨hx, fun k hk => (hS k hk).elim ((h2 m x hi).2 k) fun h => Nat.le_trans hsz h⟩
      · rw [if_neg e2]
        rw [List.getElem?_set_ne (fun h => e2 h.symm)] at hz
        have hm := (List.getElem?_eq_some_iff.1 hz).1
        exact ⟨z.fr (h2 m z hz).1 hf fun k hk hk2 => hk2.elim (h3 m i hm hil e2 k hk) (h3 m j hm hjl e k hk), (h2 m z hz).2⟩
  · simp only [List.length_set] at ha hb
    have key : ∀ b, b < l.length → b ≠ i → b ≠ j → (∀ k, S' k → ¬ F b k) ∧ ∀ k, T' k → ¬ F b k := fun b hb hbi hbj =>
      ⟨fun k q1 q2 => by
        rcases hS k q1 with q | q
        · exact h3 i b hil hb (Ne.symm hbi) k q q2
        · have := hlt b hb k q2; omega,
       fun k q1 q2 => by
        rcases hT k q1 with q | q
        · exact h3 j b hjl hb (Ne.symm hbj) k q q2
        · have := hlt b hb k q2; omega⟩
    dsimp only
    by_cases e : a = j
    · rw [if_pos e, if_neg (by omega)]
      by_cases e2 : b = i
      · rw [if_pos e2]; exact fun q1 q2 => hST k q2 q1
      · rw [if_neg e2]; exact (key b hb e2 (by omega)).2 k
    · rw [if_neg e]
      by_cases e2 : a = i
      · rw [if_pos e2]
        by_cases e3 : b = j
        · rw [if_pos e3]; exact hST k
        · rw [if_neg e3, if_neg (by omega)]; exact (key b hb (by omega) e3).1 k
      · rw [if_neg e2]
        by_cases e3 : b = j
        · rw [if_pos e3]; exact fun q1 q2 => (key a ha e2 e).2 k q2 q1
        · rw [if_neg e3]
          by_cases e4 : b = i
          · rw [if_pos e4]; exact fun q1 q2 => (key a ha e2 e).1 k q2 q1
          · rw [if_neg e4]; exact h3 a b ha hb hab k
/-- One takes another's place, which is let go with all behind it. -/
theorem Lies.pull {w0 W : World} {l : List Thing} (h : Lies w0 W l) (i j : Nat) (y : Thing) (hij : i < j) (hj : l[j]? = some y) : Lies w0 W ((l.take j).set i y) := by
  obtain ⟨h1, F, h2, h3⟩ := h
  have hjl := (List.getElem?_eq_some_iff.1 hj).1
  have hlen : (l.take j).length = j := by rw [List.length_take]; omega
  refine ⟨h1, fun m => if m = i then F j else F m, fun m z hz => ?_, fun a b ha hb hab k => ?_⟩
  · dsimp only
    by_cases e : m = i
    · subst e
      rw [if_pos rfl]
      rw [List.getElem?_set_self (by rw [hlen]; exact hij)] at hz
      cases hz
      exact h2 j y hj
    · rw [if_neg e]
      rw [List.getElem?_set_ne (fun h => e h.symm), List.getElem?_take] at hz
      split at hz
      · exact h2 m z hz
      · cases hz
  · rw [List.length_set, hlen] at ha hb
    dsimp only
    by_cases e : a = i
    · rw [if_pos e, if_neg (by omega)]
      exact h3 j b hjl (by omega) (by omega) k
    · rw [if_neg e]
      by_cases e2 : b = i
      · rw [if_pos e2]
        exact h3 a j (by omega) hjl (by omega) k
      · rw [if_neg e2]
        exact h3 a b (by omega) (by omega) hab k
/-- A block of the call's own. -/
def bkT (b : Nat) (e : TypeId) (cs : List Value) : Thing where
  At w S := Bk w b e cs ∧ ∀ k, S k ↔ k = b
  fr h hf hd := ⟨h.1.fr hf (hd b ((h.2 b).2 rfl)), h.2⟩
  lt h k hk := by rw [(h.2 k).1 hk]; exact h.1.lt
theorem Lies.bk {w0 W : World} {l : List Thing} {b : Nat} {e : TypeId} {cs : List Value} (h : Lies w0 W l) (i : Nat) (hi : l[i]? = some (bkT b e cs)) : Bk W b e cs := by
  obtain ⟨S, h1, _⟩ := h.get i _ hi
  exact h1.1
theorem Lies.newBk {w0 W : World} {l : List Thing} (h : Lies w0 W l) (e : TypeId) (cs : Array Value) : Lies w0 (W.alloc (.cells cs e)) (l ++ [bkT W.heap.size e cs.toList]) :=
  h.add (bkT W.heap.size e cs.toList) (S := fun k => k = W.heap.size) ⟨Bk.new W e cs, fun _ => Iff.rfl⟩ (fun k hk => by omega) ((Fr.refl W Nil).alloc _)
end Go.Proofs.Ytkeiphmhckkniaa
