/-
  The calls that came in, read.
  No condition.
-/
import Derived.Test.YtljgifjokdppgaaArgRead
import Derived.Test.YtljgifjokdppgaaRwCalls
namespace Go.Proofs.Ytljgifjokdppgaa
open Go Go.RowKit Go.ChangeShapes Go.WideShapes Go.Deep

theorem Try.cellsCall : Try.prog.cellsOf 32 = 6 := by kernel_rfl
theorem Try.cellsU8 : Try.prog.cellsOf 5 = 1 := by kernel_rfl
theorem Try.cellsI64 : Try.prog.cellsOf 2 = 1 := by kernel_rfl
theorem Try.cellsInt : Try.prog.cellsOf 3 = 1 := by kernel_rfl
theorem Try.cellsI64s : Try.prog.cellsOf 30 = 1 := by kernel_rfl
theorem list6 {α : Type} {l : List α} (h : l.length = 6) : ∃ a b c d e f, l = [a, b, c, d, e, f] := by
  match l, h with
  | [a, b, c, d, e, f], _ => exact ⟨a, b, c, d, e, f, rfl⟩

section
variable {H : Type} {enc : TypeId × Value → H} {w : World} {base : Nat} {spare : Nat → Bool} {held : Bool}
theorem read_call {fuel b o : Nat} {cs : List Value} {x : DataW H × List MemPlace} (h : DataW.trod enc Try.prog w base spare held fuel 32 cs = some x)
    (hc : ∀ j v, cs[j]? = some v → w.cell? ⟨b, o + j, none⟩ = some v) : ∃ c : CallD, CallAt w b o c := by
  obtain ⟨xs, n, _, _, hl, hlen, hfs⟩ := DataW.trod_struct Try.underlying32 h
  rw [Try.cellsCall] at hl
  obtain ⟨c0, c1, c2, c3, c4, c5, rfl⟩ := list6 hl
  have hx : ∀ i, i < 6 → ∃ y, xs[i]? = some y := fun i hi => ⟨_, List.getElem?_eq_getElem (by rw [hlen]; exact hi)⟩
  obtain ⟨y0, e0⟩ := hx 0 (by decide)
  obtain ⟨y1, e1⟩ := hx 1 (by decide)
  obtain ⟨y2, e2⟩ := hx 2 (by decide)
  obtain ⟨y3, e3⟩ := hx 3 (by decide)
  obtain ⟨y4, e4⟩ := hx 4 (by decide)
  obtain ⟨y5, e5⟩ := hx 5 (by decide)
  have f0 : DataW.trod enc Try.prog w base spare held n 5 (([c0, c1, c2, c3, c4, c5].drop 0).take (Try.prog.cellsOf 5)) = some y0 := by rw [← e0]; exact hfs 0 _ rfl
  have f1 : DataW.trod enc Try.prog w base spare held n 3 (([c0, c1, c2, c3, c4, c5].drop 1).take (Try.prog.cellsOf 3)) = some y1 := by rw [← e1]; exact hfs 1 _ rfl
  have f2 : DataW.trod enc Try.prog w base spare held n 2 (([c0, c1, c2, c3, c4, c5].drop 2).take (Try.prog.cellsOf 2)) = some y2 := by rw [← e2]; exact hfs 2 _ rfl
  have f3 : DataW.trod enc Try.prog w base spare held n 3 (([c0, c1, c2, c3, c4, c5].drop 3).take (Try.prog.cellsOf 3)) = some y3 := by rw [← e3]; exact hfs 3 _ rfl
  have f4 : DataW.trod enc Try.prog w base spare held n 2 (([c0, c1, c2, c3, c4, c5].drop 4).take (Try.prog.cellsOf 2)) = some y4 := by rw [← e4]; exact hfs 4 _ rfl
  have f5 : DataW.trod enc Try.prog w base spare held n 30 (([c0, c1, c2, c3, c4, c5].drop 5).take (Try.prog.cellsOf 30)) = some y5 := by rw [← e5]; exact hfs 5 _ rfl
  simp only [Try.cellsU8, Try.cellsI64, Try.cellsInt, Try.cellsI64s, List.drop_zero, List.drop_succ_cons, List.take_succ_cons, List.take_zero] at f0 f1 f2 f3 f4 f5
  obtain ⟨k0, g0, _, w0⟩ := DataW.trod_int Try.underlying5 f0
  obtain ⟨k1, g1, _, w1⟩ := DataW.trod_int Try.underlying3 f1
  obtain ⟨k2, g2, _, w2⟩ := DataW.trod_int Try.underlying2 f2
  obtain ⟨k3, g3, _, w3⟩ := DataW.trod_int Try.underlying3 f3
  obtain ⟨k4, g4, _, w4⟩ := DataW.trod_int Try.underlying2 f4
  obtain ⟨v5, ys, g5, hi, hmx, _⟩ := read_ints Try.underlying30 Try.underlying2 Try.cellsI64 f5
  simp only [List.cons.injEq, and_true] at g0 g1 g2 g3 g4 g5
  subst g0 g1 g2 g3 g4 g5
  exact ⟨⟨k0, k1, k2, k3, k4, c5, ys⟩, hc 0 _ rfl, hc 1 _ rfl, hc 2 _ rfl, hc 3 _ rfl, hc 4 _ rfl, hc 5 _ rfl, hi, u8_range w0, hmx⟩
theorem read_calls {fuel : Nat} {cs : List Value} {x : DataW H × List MemPlace} (h : DataW.trod enc Try.prog w base spare held fuel 22 cs = some x) :
    ∃ v l, cs = [v] ∧ CallsAt w v l := by
  obtain ⟨a, len, cap, rfl, hm, h0 | ⟨b, off, rfl, hel⟩⟩ := read_elems Try.underlying22 Try.cellsCall (by decide) h
  · subst h0
    exact ⟨_, [], rfl, by simp, a, cap, rfl, .inl rfl⟩
  · obtain ⟨l, hl, hp⟩ := list_of (p := fun i c => CallAt w b (off + i * 6) c) (n := len) fun i hi => by
      obtain ⟨cs', n, y, _, hc, htr⟩ := hel i hi
      exact read_call htr hc
    subst hl
    exact ⟨_, l, rfl, hm, some ⟨b, off, none⟩, cap, rfl, .inr ⟨b, off, rfl, hp⟩⟩
end
end Go.Proofs.Ytljgifjokdppgaa
