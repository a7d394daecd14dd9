/-
  A graph that came in, read.
  No condition.
-/
import Derived.Test.YtkeiphmhckkniaaArgRead
import Derived.Test.YtkeiphmhckkniaaFlat
import Derived.Test.YtkeiphmhckkniaaWtLaw
namespace Go.Proofs.Ytkeiphmhckkniaa
open Go Go.RowKit Go.ChangeShapes Go.WideShapes Go.Deep

theorem flat_one {α β : Type} (g : α → β) (l : List α) : l.flatMap (fun x => [g x]) = l.map g := by
  induction l with
  | nil => rfl
  | cons x l ih => rw [List.flatMap_cons, ih]; rfl
theorem Try.cellsRow : Try.prog.cellsOf 27 = 1 := by kernel_rfl
section
variable {H : Type} {enc : TypeId × Value → H} {w : World} {base : Nat} {spare : Nat → Bool} {held : Bool}
theorem read_graph {fuel : Nat} {cs : List Value} {x : DataW H × List MemPlace} (h : DataW.trod enc Try.prog w base spare held fuel 23 cs = some x) :
    ∃ v L, cs = [v] ∧ GraphW w v L := by
  obtain ⟨a2, len2, cap2, he, hm2, h2⟩ := read_elems Try.underlying23 Try.cellsRow (by decide) h
  rcases open_slice Try.underlying23 h with ⟨rfl, _⟩ | ⟨a, len, cap, m, n, D, Pl, rfl, _, hlc, hcm, hm, _, hel⟩
  · exact ⟨_, [], rfl, [], SlAt.nil _ _, by simp, by simp⟩
  · simp only [List.cons.injEq, and_true, Value.slice.injEq] at he
    obtain ⟨rfl, rfl, rfl⟩ := he
    rcases h2 with rfl | ⟨b, off, ha, hel2⟩
    · exact ⟨_, [], rfl, [], ⟨by simp, .inr ⟨a, cap, rfl, fun j u hu => by simp at hu⟩⟩, by simp, by simp⟩
    · cases ha
      obtain ⟨l, hl, hp⟩ := list_of (p := fun i (p : Value × List Int) => (∀ j u, [p.1][j]? = some u → w.cell? ⟨b, off + i * 1 + j, none⟩ = some u) ∧ IntsAt w p.1 p.2 ∧ p.2.length ≤ 9223372036854775807) (n := len) fun i hi => by
        obtain ⟨cs', n, y, hcl, hc, htr⟩ := hel2 i hi
        obtain ⟨v, xs, g, h1, h2, _⟩ := read_ints Try.underlying27 Try.underlying3 (by kernel_rfl) htr
        subst g
        exact ⟨(v, xs), hc, h1, h2⟩
      subst hl
      refine ⟨_, l.map Prod.snd, rfl, l.map Prod.fst, ?_, by simpa using hm2, fun i xs hi => ?_⟩
      · have := sl_of (f := fun p : Value × List Int => [p.1]) (n := 1) (w := w) (cap := cap) (fun _ => rfl) (by decide) fun i t ht => (hp i t ht).1
        rw [flat_one] at this
        rw [List.length_map]
        exact this
      · rw [List.getElem?_map] at hi
        cases hq : l[i]? with
        | none => rw [hq] at hi; cases hi
        | some p =>
          rw [hq] at hi
          cases hi
          exact ⟨p.1, by rw [List.getElem?_map, hq]; rfl, (hp i p hq).2⟩
end
end Go.Proofs.Ytkeiphmhckkniaa
