/-
  The calls that came in, read.
  No condition.
-/
import Derived.Test.YtjpenaodkfljhaaArgRead
import Derived.Test.YtjpenaodkfljhaaFlat
import Derived.Test.YtjpenaodkfljhaaUdMem
namespace Go.Proofs.Ytjpenaodkfljhaa
open Go Go.RowKit Go.ChangeShapes Go.WideShapes Go.Deep

theorem Try.cellsUCall : Try.prog.cellsOf 64 = 5 := by kernel_rfl
theorem Try.cellsUU8 : Try.prog.cellsOf 5 = 1 := by kernel_rfl
theorem Try.cellsUI64 : Try.prog.cellsOf 2 = 1 := by kernel_rfl
theorem Try.cellsUInt : Try.prog.cellsOf 3 = 1 := by kernel_rfl
/-- A call: its kind, who, table, key, number. -/
structure UCall where
  kind : Int
  who : Int
  table : Int
  key : Int
  n : Int
  okk : 0 ≤ kind ∧ kind < 256
  okw : (Lit.int .i64 who).wf = true
  oky : (Lit.int .i64 key).wf = true
abbrev UCall.vals (c : UCall) : List Value := [.int .u8 c.kind, .int .i64 c.who, .int .i64 c.table, .int .i64 c.key, .int .i64 c.n]
theorem list5u {α : Type} {l : List α} (h : l.length = 5) : ∃ a b c d e, l = [a, b, c, d, e] := by
  match l, h with
  | [a, b, c, d, e], _ => exact ⟨a, b, c, d, e, rfl⟩
section
variable {H : Type} {enc : TypeId × Value → H} {w : World} {base : Nat} {spare : Nat → Bool} {held : Bool}
theorem read_ucall {fuel : Nat} {cs : List Value} {x : DataW H × List MemPlace} (h : DataW.trod enc Try.prog w base spare held fuel 64 cs = some x) : ∃ c : UCall, cs = c.vals := by
  obtain ⟨xs, n, _, _, hl, hlen, hfs⟩ := DataW.trod_struct Try.underlying64 h
  rw [Try.cellsUCall] at hl
  obtain ⟨c0, c1, c2, c3, c4, rfl⟩ := list5u hl
  have hx : ∀ i, i < 5 → ∃ y, xs[i]? = some y := fun i hi => ⟨_, List.getElem?_eq_getElem (by rw [hlen]; exact hi)⟩
  obtain ⟨y0, e0⟩ := hx 0 (by decide)
  obtain ⟨y1, e1⟩ := hx 1 (by decide)
  obtain ⟨y2, e2⟩ := hx 2 (by decide)
  obtain ⟨y3, e3⟩ := hx 3 (by decide)
  obtain ⟨y4, e4⟩ := hx 4 (by decide)
  have f0 : DataW.trod enc Try.prog w base spare held n 5 (([c0, c1, c2, c3, c4].drop 0).take (Try.prog.cellsOf 5)) = some y0 := by rw [← e0]; exact hfs 0 _ rfl
  have f1 : DataW.trod enc Try.prog w base spare held n 2 (([c0, c1, c2, c3, c4].drop 1).take (Try.prog.cellsOf 2)) = some y1 := by rw [← e1]; exact hfs 1 _ rfl
  have f2 : DataW.trod enc Try.prog w base spare held n 3 (([c0, c1, c2, c3, c4].drop 2).take (Try.prog.cellsOf 3)) = some y2 := by rw [← e2]; exact hfs 2 _ rfl
  have f3 : DataW.trod enc Try.prog w base spare held n 2 (([c0, c1, c2, c3, c4].drop 3).take (Try.prog.cellsOf 2)) = some y3 := by rw [← e3]; exact hfs 3 _ rfl
  have f4 : DataW.trod enc Try.prog w base spare held n 2 (([c0, c1, c2, c3, c4].drop 4).take (Try.prog.cellsOf 2)) = some y4 := by rw [← e4]; exact hfs 4 _ rfl
  simp only [Try.cellsUI64, Try.cellsUU8, Try.cellsUInt, List.drop_zero, List.drop_succ_cons, List.take_succ_cons, List.take_zero] at f0 f1 f2 f3 f4
  obtain ⟨k0, g0, _, w0⟩ := DataW.trod_int Try.underlying5 f0
  obtain ⟨k1, g1, _, w1⟩ := DataW.trod_int Try.underlying2 f1
  obtain ⟨k2, g2, _, w2⟩ := DataW.trod_int Try.underlying3 f2
  obtain ⟨k3, g3, _, w3⟩ := DataW.trod_int Try.underlying2 f3
  obtain ⟨k4, g4, _, w4⟩ := DataW.trod_int Try.underlying2 f4
  simp only [List.cons.injEq, and_true] at g0 g1 g2 g3 g4
  subst g0 g1 g2 g3 g4
  exact ⟨⟨k0, k1, k2, k3, k4, u8_range w0, w1, w3⟩, rfl⟩
/-- Calls that came in. -/
def UCallsAt (w : World) (v : Value) (l : List UCall) : Prop := SlAt w 5 v l.length (l.flatMap UCall.vals) ∧ CapOk v ∧ l.length ≤ 9223372036854775807
theorem UCallsAt.shape {v : Value} {l : List UCall} (h : UCallsAt w v l) : ∃ a cap, v = .slice a l.length cap ∧ l.length ≤ cap := by
  obtain ⟨a, cap, rfl⟩ := SlAt.shape h.1
  exact ⟨a, cap, rfl, h.2.1 _ _ _ rfl⟩
theorem UCallsAt.fr0 {w' : World} {v : Value} {l : List UCall} (h : UCallsAt w v l) (hf : Fr w w' Nil) : UCallsAt w' v l := ⟨SlAt.fr0 h.1 hf, h.2⟩
theorem UCallsAt.form {v : Value} {l : List UCall} (h : UCallsAt w v l) (hn : 0 < l.length) : ∃ b off cap, v = .slice (some ⟨b, off, none⟩) l.length cap ∧
    ∀ i t, l[i]? = some t → ∀ j u, t.vals[j]? = some u → w.cell? ⟨b, off + i * 5 + j, none⟩ = some u := flat_form (n := 5) (fun _ => rfl) (by decide) h.1 hn
theorem ucall_cells {b off : Nat} {l : List UCall} (h : ∀ i t, l[i]? = some t → ∀ j u, t.vals[j]? = some u → w.cell? ⟨b, off + i * 5 + j, none⟩ = some u) {i : Nat} {t : UCall} (ht : l[i]? = some t) :
    w.cell? ⟨b, off + i * 5, none⟩ = some (.int .u8 t.kind) ∧ w.cell? ⟨b, off + i * 5 + 1, none⟩ = some (.int .i64 t.who) ∧ w.cell? ⟨b, off + i * 5 + 2, none⟩ = some (.int .i64 t.table) ∧ w.cell? ⟨b, off + i * 5 + 3, none⟩ = some (.int .i64 t.key) ∧ w.cell? ⟨b, off + i * 5 + 4, none⟩ = some (.int .i64 t.n) :=
  ⟨h i t ht 0 _ rfl, h i t ht 1 _ rfl, h i t ht 2 _ rfl, h i t ht 3 _ rfl, h i t ht 4 _ rfl⟩
theorem read_ucalls {fuel : Nat} {cs : List Value} {x : DataW H × List MemPlace} (h : DataW.trod enc Try.prog w base spare held fuel 57 cs = some x) : ∃ v l, cs = [v] ∧ UCallsAt w v l := by
  obtain ⟨a2, len2, cap2, he, hm2, h2⟩ := read_elems Try.underlying57 Try.cellsUCall (by decide) h
  rcases open_slice Try.underlying57 h with ⟨rfl, _⟩ | ⟨a, len, cap, m, n, D, Pl, rfl, _, hlc, hcm, hm, _, hel⟩
  · exact ⟨_, [], rfl, SlAt.nil _ _, (fun a n c e => by cases e; exact Nat.le_refl _), by simp⟩
  · simp only [List.cons.injEq, and_true, Value.slice.injEq] at he
    obtain ⟨rfl, rfl, rfl⟩ := he
    have hcap : CapOk (.slice (some a) len cap) := fun a n c e => by cases e; exact hlc
    rcases h2 with rfl | ⟨b, off, ha, hel2⟩
    · exact ⟨_, [], rfl, ⟨by simp, .inr ⟨a, cap, rfl, fun j u hu => by simp at hu⟩⟩, hcap, by simp⟩
    · cases ha
      obtain ⟨l, hl, hp⟩ := list_of (p := fun i (t : UCall) => ∀ j u, t.vals[j]? = some u → w.cell? ⟨b, off + i * 5 + j, none⟩ = some u) (n := len) fun i hi => by
        obtain ⟨cs', n, y, _, hc, htr⟩ := hel2 i hi
        obtain ⟨t, rfl⟩ := read_ucall htr
        exact ⟨t, hc⟩
      subst hl
      exact ⟨_, l, rfl, sl_of (f := UCall.vals) (n := 5) (fun _ => rfl) (by decide) hp, hcap, hm2⟩
end
end Go.Proofs.Ytjpenaodkfljhaa
