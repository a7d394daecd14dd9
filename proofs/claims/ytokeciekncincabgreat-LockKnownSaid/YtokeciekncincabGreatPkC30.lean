/-
  Spots and calls that came in, read.
  No condition.
-/
import Derived.Test.YtokeciekncincabGreatPkC29
import Derived.Test.YtokeciekncincabGreatPkC3
import Derived.Test.YtokeciekncincabGreatPkC4
namespace Go.Proofs.YtokeciekncincabGreat
open Go Go.RowKit Go.ChangeShapes Go.WideShapes Go.Deep

theorem Tryz.cellsSpotA : Tryz.prog.cellsOf 30 = 3 := by kernel_rfl
theorem Tryz.cellsCallA : Tryz.prog.cellsOf 33 = 6 := by kernel_rfl
theorem Tryz.cellsModeA : Tryz.prog.cellsOf 31 = 1 := by kernel_rfl
theorem Tryz.cellsBoolA : Tryz.prog.cellsOf 4 = 1 := by kernel_rfl
theorem Tryz.cellsI64A : Tryz.prog.cellsOf 2 = 1 := by kernel_rfl
theorem Tryz.cellsIntA : Tryz.prog.cellsOf 3 = 1 := by kernel_rfl
theorem Tryz.cellsU8A : Tryz.prog.cellsOf 5 = 1 := by kernel_rfl
/-- A call: its kind, who, the spot, the mode. -/
structure CallK where
  kind : Int
  who : Int
  s : Spot
  m : Int
  okk : 0 ≤ kind ∧ kind < 256
  okw : (Lit.int .i64 who).wf = true
  oks : SWf s
  okm : 0 ≤ m ∧ m < 256
abbrev CallK.vals (c : CallK) : List Value := [.int .u8 c.kind, .int .i64 c.who, .int .i64 c.s.1, .bool c.s.2.1, .int .i64 c.s.2.2, .int .u8 c.m]
theorem list3 {α : Type} {l : List α} (h : l.length = 3) : ∃ a b c, l = [a, b, c] := by
  match l, h with
  | [a, b, c], _ => exact ⟨a, b, c, rfl⟩
theorem list6 {α : Type} {l : List α} (h : l.length = 6) : ∃ a b c d e f, l = [a, b, c, d, e, f] := by
  match l, h with
  | [a, b, c, d, e, f], _ => exact ⟨a, b, c, d, e, f, rfl⟩
section
variable {H : Type} {enc : TypeId × Value → H} {w : World} {base : Nat} {spare : Nat → Bool} {held : Bool}
theorem read_spot {fuel : Nat} {cs : List Value} {x : DataW H × List MemPlace} (h : DataW.trod enc Tryz.prog w base spare held fuel 30 cs = some x) : ∃ s : Spot, SWf s ∧ cs = [.int .i64 s.1, .bool s.2.1, .int .i64 s.2.2] := by
  obtain ⟨xs, n, _, _, hl, hlen, hfs⟩ := DataW.trod_struct Tryz.underlying30 h
  rw [Tryz.cellsSpotA] at hl
  obtain ⟨c0, c1, c2, rfl⟩ := list3 hl
  have hx : ∀ i, i < 3 → ∃ y, xs[i]? = some y := fun i hi => ⟨_, List.getElem?_eq_getElem (by rw [hlen]; exact hi)⟩
  obtain ⟨y0, e0⟩ := hx 0 (by decide)
  obtain ⟨y1, e1⟩ := hx 1 (by decide)
  obtain ⟨y2, e2⟩ := hx 2 (by decide)
  have f0 : DataW.trod enc Tryz.prog w base spare held n 3 (([c0, c1, c2].drop 0).take (Tryz.prog.cellsOf 3)) = some y0 := by rw [← e0]; exact hfs 0 _ rfl
  have f1 : DataW.trod enc Tryz.prog w base spare held n 4 (([c0, c1, c2].drop 1).take (Tryz.prog.cellsOf 4)) = some y1 := by rw [← e1]; exact hfs 1 _ rfl
  have f2 : DataW.trod enc Tryz.prog w base spare held n 2 (([c0, c1, c2].drop 2).take (Tryz.prog.cellsOf 2)) = some y2 := by rw [← e2]; exact hfs 2 _ rfl
  simp only [Tryz.cellsI64A, Tryz.cellsIntA, Tryz.cellsBoolA, List.drop_zero, List.drop_succ_cons, List.take_succ_cons, List.take_zero] at f0 f1 f2
  obtain ⟨k0, g0, _, w0⟩ := DataW.trod_int Tryz.underlying3 f0
  obtain ⟨k1, g1, _⟩ := DataW.trod_bool Tryz.underlying4 f1
  obtain ⟨k2, g2, _, w2⟩ := DataW.trod_int Tryz.underlying2 f2
  simp only [List.cons.injEq, and_true] at g0 g1 g2
  subst g0 g1 g2
  exact ⟨(k0, k1, k2), ⟨w0, w2⟩, rfl⟩
theorem read_callk {fuel : Nat} {cs : List Value} {x : DataW H × List MemPlace} (h : DataW.trod enc Tryz.prog w base spare held fuel 33 cs = some x) : ∃ c : CallK, cs = c.vals := by
  obtain ⟨xs, n, _, _, hl, hlen, hfs⟩ := DataW.trod_struct Tryz.underlying33 h
  rw [Tryz.cellsCallA] at hl
  obtain ⟨c0, c1, c2, c3, c4, c5, rfl⟩ := list6 hl
  have hx : ∀ i, i < 4 → ∃ y, xs[i]? = some y := fun i hi => ⟨_, List.getElem?_eq_getElem (by rw [hlen]; exact hi)⟩
  obtain ⟨y0, e0⟩ := hx 0 (by decide)
  obtain ⟨y1, e1⟩ := hx 1 (by decide)
  obtain ⟨y2, e2⟩ := hx 2 (by decide)
  obtain ⟨y3, e3⟩ := hx 3 (by decide)
  have f0 : DataW.trod enc Tryz.prog w base spare held n 5 (([c0, c1, c2, c3, c4, c5].drop 0).take (Tryz.prog.cellsOf 5)) = some y0 := by rw [← e0]; exact hfs 0 _ rfl
  have f1 : DataW.trod enc Tryz.prog w base spare held n 2 (([c0, c1, c2, c3, c4, c5].drop 1).take (Tryz.prog.cellsOf 2)) = some y1 := by rw [← e1]; exact hfs 1 _ rfl
  have f2 : DataW.trod enc Tryz.prog w base spare held n 30 (([c0, c1, c2, c3, c4, c5].drop 2).take (Tryz.prog.cellsOf 30)) = some y2 := by rw [← e2]; exact hfs 2 _ rfl
  have f3 : DataW.trod enc Tryz.prog w base spare held n 31 (([c0, c1, c2, c3, c4, c5].drop 5).take (Tryz.prog.cellsOf 31)) = some y3 := by rw [← e3]; exact hfs 3 _ rfl
  simp only [Tryz.cellsI64A, Tryz.cellsU8A, Tryz.cellsSpotA, Tryz.cellsModeA, List.drop_zero, List.drop_succ_cons, List.take_succ_cons, List.take_zero] at f0 f1 f2 f3
  obtain ⟨k0, g0, _, w0⟩ := DataW.trod_int Tryz.underlying5 f0
  obtain ⟨k1, g1, _, w1⟩ := DataW.trod_int Tryz.underlying2 f1
  obtain ⟨s, hs, g2⟩ := read_spot f2
  obtain ⟨k3, g3, _, w3⟩ := DataW.trod_int Tryz.underlying31 f3
  simp only [List.cons.injEq, and_true] at g0 g1 g2 g3
  obtain ⟨h2, h3, h4⟩ := g2
  subst g0 g1 h2 h3 h4 g3
  exact ⟨⟨k0, k1, s, k3, u8_range w0, w1, hs, u8_range w3⟩, rfl⟩
/-- Calls that came in. -/
def KCallsAt (w : World) (v : Value) (l : List CallK) : Prop := SlAt w 6 v l.length (l.flatMap CallK.vals) ∧ CapOk v ∧ l.length ≤ 9223372036854775807
theorem KCallsAt.shape {v : Value} {l : List CallK} (h : KCallsAt w v l) : ∃ a cap, v = .slice a l.length cap ∧ l.length ≤ cap := by
  obtain ⟨a, cap, rfl⟩ := SlAt.shape h.1
  exact ⟨a, cap, rfl, h.2.1 _ _ _ rfl⟩
theorem KCallsAt.fr0 {w' : World} {v : Value} {l : List CallK} (h : KCallsAt w v l) (hf : Fr w w' Nil) : KCallsAt w' v l := ⟨SlAt.fr0 h.1 hf, h.2⟩
theorem KCallsAt.form {v : Value} {l : List CallK} (h : KCallsAt w v l) (hn : 0 < l.length) : ∃ b off cap, v = .slice (some ⟨b, off, none⟩) l.length cap ∧
    ∀ i t, l[i]? = some t → ∀ j u, t.vals[j]? = some u → w.cell? ⟨b, off + i * 6 + j, none⟩ = some u := flat_form (n := 6) (fun _ => rfl) (by decide) h.1 hn
theorem read_calls11 {fuel : Nat} {cs : List Value} {x : DataW H × List MemPlace} (h : DataW.trod enc Tryz.prog w base spare held fuel 22 cs = some x) : ∃ v l, cs = [v] ∧ KCallsAt w v l := by
  obtain ⟨a2, len2, cap2, he, hm2, h2⟩ := read_elems Tryz.underlying22 Tryz.cellsCallA (by decide) h
  rcases open_slice Tryz.underlying22 h with ⟨rfl, _⟩ | ⟨a, len, cap, m, n, D, Pl, rfl, _, hlc, hcm, hm, _, hel⟩
  · exact ⟨_, [], rfl, SlAt.nil _ _, (fun a n c e => by cases e; exact Nat.le_refl _), by simp⟩
  · simp only [List.cons.injEq, and_true, Value.slice.injEq] at he
    obtain ⟨rfl, rfl, rfl⟩ := he
    have hcap : CapOk (.slice (some a) len cap) := fun a n c e => by cases e; exact hlc
    rcases h2 with rfl | ⟨b, off, ha, hel2⟩
    · exact ⟨_, [], rfl, ⟨by simp, .inr ⟨a, cap, rfl, fun j u hu => by simp at hu⟩⟩, hcap, by simp⟩
    · cases ha
      obtain ⟨l, hl, hp⟩ := list_of (p := fun i (t : CallK) => ∀ j u, t.vals[j]? = some u → w.cell? ⟨b, off + i * 6 + j, none⟩ = some u) (n := len) fun i hi => by
        obtain ⟨cs', n, y, _, hc, htr⟩ := hel2 i hi
        obtain ⟨t, rfl⟩ := read_callk htr
        exact ⟨t, hc⟩
      subst hl
      exact ⟨_, l, rfl, sl_of (f := CallK.vals) (n := 6) (fun _ => rfl) (by decide) hp, hcap, hm2⟩
end
end Go.Proofs.YtokeciekncincabGreat
