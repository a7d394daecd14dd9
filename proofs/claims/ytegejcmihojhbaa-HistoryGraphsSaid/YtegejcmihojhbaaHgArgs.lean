/-
  Answers that came in, read.
  No condition.
-/
import Derived.Test.YtegejcmihojhbaaHsArgs
import Derived.Test.YtegejcmihojhbaaHgAns
namespace Go.Proofs.Ytegejcmihojhbaa
open Go Go.RowKit Go.ChangeShapes Go.WideShapes Go.Deep

theorem Try.cellsAnswer : Try.prog.cellsOf 74 = 5 := by kernel_rfl
theorem Try.cellsErrno : Try.prog.cellsOf 72 = 1 := by kernel_rfl
theorem Try.cellsI64s : Try.prog.cellsOf 22 = 1 := by kernel_rfl
/-- Answers that came in. -/
def AsAt (w : World) (v : Value) (l : List AnsD) : Prop := AnsAt w v l ∧ CapOk v ∧ l.length ≤ 9223372036854775807
theorem AsAt.shape {w : World} {v : Value} {l : List AnsD} (h : AsAt w v l) : ∃ a cap, v = .slice a l.length cap := SlAt.shape h.1

section
variable {H : Type} {enc : TypeId × Value → H} {w : World} {base : Nat} {spare : Nat → Bool} {held : Bool}
theorem read_answer {fuel b o : Nat} {cs : List Value} {x : DataW H × List MemPlace} (h : DataW.trod enc Try.prog w base spare held fuel 74 cs = some x)
    (hc : ∀ j v, cs[j]? = some v → w.cell? ⟨b, o + j, none⟩ = some v) : ∃ t : AnsD, ∀ j u, t.vals[j]? = some u → w.cell? ⟨b, o + j, none⟩ = some u := by
  obtain ⟨xs, n, _, _, hl, hlen, hfs⟩ := DataW.trod_struct Try.underlying74 h
  rw [Try.cellsAnswer] at hl
  obtain ⟨c0, c1, c2, c3, c4, rfl⟩ := list5 hl
  have hx : ∀ i, i < 5 → ∃ y, xs[i]? = some y := fun i hi => ⟨_, List.getElem?_eq_getElem (by rw [hlen]; exact hi)⟩
  obtain ⟨y0, e0⟩ := hx 0 (by decide)
  obtain ⟨y1, e1⟩ := hx 1 (by decide)
  obtain ⟨y2, e2⟩ := hx 2 (by decide)
  obtain ⟨y3, e3⟩ := hx 3 (by decide)
  obtain ⟨y4, e4⟩ := hx 4 (by decide)
  have f0 : DataW.trod enc Try.prog w base spare held n 2 (([c0, c1, c2, c3, c4].drop 0).take (Try.prog.cellsOf 2)) = some y0 := by rw [← e0]; exact hfs 0 _ rfl
  have f1 : DataW.trod enc Try.prog w base spare held n 3 (([c0, c1, c2, c3, c4].drop 1).take (Try.prog.cellsOf 3)) = some y1 := by rw [← e1]; exact hfs 1 _ rfl
  have f2 : DataW.trod enc Try.prog w base spare held n 72 (([c0, c1, c2, c3, c4].drop 2).take (Try.prog.cellsOf 72)) = some y2 := by rw [← e2]; exact hfs 2 _ rfl
  have f3 : DataW.trod enc Try.prog w base spare held n 4 (([c0, c1, c2, c3, c4].drop 3).take (Try.prog.cellsOf 4)) = some y3 := by rw [← e3]; exact hfs 3 _ rfl
  have f4 : DataW.trod enc Try.prog w base spare held n 22 (([c0, c1, c2, c3, c4].drop 4).take (Try.prog.cellsOf 22)) = some y4 := by rw [← e4]; exact hfs 4 _ rfl
  simp only [Try.cellsI64h, Try.cellsIntH, Try.cellsErrno, Try.cellsB, Try.cellsI64s, List.drop_zero, List.drop_succ_cons, List.take_succ_cons, List.take_zero] at f0 f1 f2 f3 f4
  obtain ⟨k0, g0, _, w0⟩ := DataW.trod_int Try.underlying2 f0
  obtain ⟨k1, g1, _, _⟩ := DataW.trod_int Try.underlying3 f1
  obtain ⟨k2, g2, _, _⟩ := DataW.trod_int Try.underlying72 f2
  obtain ⟨k3, g3, _⟩ := DataW.trod_bool Try.underlying4 f3
  obtain ⟨a4, n4, cap4, g4, _, _⟩ := read_elems Try.underlying22 Try.cellsI64h (by decide) f4
  simp only [List.cons.injEq, and_true] at g0 g1 g2 g3 g4
  subst g0 g1 g2 g3 g4
  exact ⟨⟨k0, k1, k2, k3, a4, n4, cap4, w0⟩, hc⟩
theorem read_answers {fuel : Nat} {cs : List Value} {x : DataW H × List MemPlace} (h : DataW.trod enc Try.prog w base spare held fuel 48 cs = some x) :
    ∃ v l, cs = [v] ∧ AsAt w v l := by
  obtain ⟨a2, len2, cap2, he, hm2, h2⟩ := read_elems Try.underlying48 Try.cellsAnswer (by decide) h
  rcases open_slice Try.underlying48 h with ⟨rfl, _⟩ | ⟨a, len, cap, m, n, D, Pl, rfl, _, hlc, hcm, hm, _, hel⟩
  · exact ⟨_, [], rfl, SlAt.nil _ _, (fun a n c e => by cases e; exact Nat.le_refl _), by simp⟩
  · simp only [List.cons.injEq, and_true, Value.slice.injEq] at he
    obtain ⟨rfl, rfl, rfl⟩ := he
    have hcap : CapOk (.slice (some a) len cap) := fun a n c e => by cases e; exact hlc
    rcases h2 with rfl | ⟨b, off, ha, hel2⟩
    · exact ⟨_, [], rfl, ⟨by simp, .inr ⟨a, cap, rfl, fun j u hu => by simp at hu⟩⟩, hcap, by simp⟩
    · cases ha
      obtain ⟨l, hl, hp⟩ := list_of (p := fun i (t : AnsD) => ∀ j u, t.vals[j]? = some u → w.cell? ⟨b, off + i * 5 + j, none⟩ = some u) (n := len) fun i hi => by
        obtain ⟨cs', n, y, _, hc, htr⟩ := hel2 i hi
        exact read_answer htr hc
      subst hl
      exact ⟨_, l, rfl, sl_of (f := AnsD.vals) (n := 5) (fun _ => rfl) (by decide) hp, hcap, hm2⟩
end
end Go.Proofs.Ytegejcmihojhbaa
