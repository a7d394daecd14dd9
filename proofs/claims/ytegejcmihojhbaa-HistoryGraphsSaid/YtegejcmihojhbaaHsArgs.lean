/-
  Touches, answers, rows of bytes that came in, read.
  No condition.
-/
import Derived.Test.YtegejcmihojhbaaArgRead
import Derived.Test.YtegejcmihojhbaaHsMem
import Derived.Test.YtegejcmihojhbaaFlat
import Derived.Test.YtegejcmihojhbaaHsSame
namespace Go.Proofs.Ytegejcmihojhbaa
open Go Go.RowKit Go.ChangeShapes Go.WideShapes Go.Deep

theorem flat_one {α β : Type} (g : α → β) (l : List α) : l.flatMap (fun x => [g x]) = l.map g := by
  induction l with
  | nil => rfl
  | cons x l ih => rw [List.flatMap_cons, ih]; rfl

theorem Try.cellsTouch : Try.prog.cellsOf 46 = 5 := by kernel_rfl
theorem Try.cellsSpot : Try.prog.cellsOf 44 = 3 := by kernel_rfl
theorem Try.cellsB : Try.prog.cellsOf 4 = 1 := by kernel_rfl
theorem Try.cellsI64h : Try.prog.cellsOf 2 = 1 := by kernel_rfl
theorem Try.cellsIntH : Try.prog.cellsOf 3 = 1 := by kernel_rfl
theorem Try.cellsU8h : Try.prog.cellsOf 5 = 1 := by kernel_rfl
theorem Try.cellsU8s : Try.prog.cellsOf 42 = 1 := by kernel_rfl
theorem list5 {α : Type} {l : List α} (h : l.length = 5) : ∃ a b c d e, l = [a, b, c, d, e] := by
  match l, h with
  | [a, b, c, d, e], _ => exact ⟨a, b, c, d, e, rfl⟩

/-- Touches that came in. -/
def TsAt (w : World) (v : Value) (ts : List TouchD) : Prop := TouchesAt w v ts ∧ CapOk v ∧ ts.length ≤ 9223372036854775807
theorem TsAt.shape {w : World} {v : Value} {ts : List TouchD} (h : TsAt w v ts) : ∃ a cap, v = .slice a ts.length cap ∧ ts.length ≤ cap := by
  obtain ⟨a, cap, rfl⟩ := SlAt.shape h.1
  exact ⟨a, cap, rfl, h.2.1 _ _ _ rfl⟩
theorem TsAt.fr0 {w w' : World} {v : Value} {ts : List TouchD} (h : TsAt w v ts) (hf : Fr w w' Nil) : TsAt w' v ts := ⟨SlAt.fr0 h.1 hf, h.2⟩

section
variable {H : Type} {enc : TypeId × Value → H} {w : World} {base : Nat} {spare : Nat → Bool} {held : Bool}
theorem read_touch {fuel b o : Nat} {cs : List Value} {x : DataW H × List MemPlace} (h : DataW.trod enc Try.prog w base spare held fuel 46 cs = some x)
    (hc : ∀ j v, cs[j]? = some v → w.cell? ⟨b, o + j, none⟩ = some v) : ∃ t : TouchD, ∀ j u, t.vals[j]? = some u → w.cell? ⟨b, o + j, none⟩ = some u := by
  obtain ⟨xs, n, _, _, hl, hlen, hfs⟩ := DataW.trod_struct Try.underlying46 h
  rw [Try.cellsTouch] at hl
  obtain ⟨c0, c1, c2, c3, c4, rfl⟩ := list5 hl
  have hx : ∀ i, i < 3 → ∃ y, xs[i]? = some y := fun i hi => ⟨_, List.getElem?_eq_getElem (by rw [hlen]; exact hi)⟩
  obtain ⟨y0, e0⟩ := hx 0 (by decide)
  obtain ⟨y1, e1⟩ := hx 1 (by decide)
  obtain ⟨y2, e2⟩ := hx 2 (by decide)
  have f0 : DataW.trod enc Try.prog w base spare held n 2 (([c0, c1, c2, c3, c4].drop 0).take (Try.prog.cellsOf 2)) = some y0 := by rw [← e0]; exact hfs 0 _ rfl
  have f1 : DataW.trod enc Try.prog w base spare held n 44 (([c0, c1, c2, c3, c4].drop 1).take (Try.prog.cellsOf 44)) = some y1 := by rw [← e1]; exact hfs 1 _ rfl
  have f2 : DataW.trod enc Try.prog w base spare held n 4 (([c0, c1, c2, c3, c4].drop 4).take (Try.prog.cellsOf 4)) = some y2 := by rw [← e2]; exact hfs 2 _ rfl
  simp only [Try.cellsI64h, Try.cellsSpot, Try.cellsB, List.drop_zero, List.drop_succ_cons, List.take_succ_cons, List.take_zero] at f0 f1 f2
  obtain ⟨k0, g0, _, w0⟩ := DataW.trod_int Try.underlying2 f0
  obtain ⟨k4, g4, _⟩ := DataW.trod_bool Try.underlying4 f2
  obtain ⟨zs, m, _, _, _, hzl, hgs⟩ := DataW.trod_struct Try.underlying44 f1
  have hz : ∀ i, i < 3 → ∃ y, zs[i]? = some y := fun i hi => ⟨_, List.getElem?_eq_getElem (by rw [hzl]; exact hi)⟩
  obtain ⟨z0, i0⟩ := hz 0 (by decide)
  obtain ⟨z1, i1⟩ := hz 1 (by decide)
  obtain ⟨z2, i2⟩ := hz 2 (by decide)
  have j0 : DataW.trod enc Try.prog w base spare held m 3 (([c1, c2, c3].drop 0).take (Try.prog.cellsOf 3)) = some z0 := by rw [← i0]; exact hgs 0 _ rfl
  have j1 : DataW.trod enc Try.prog w base spare held m 4 (([c1, c2, c3].drop 1).take (Try.prog.cellsOf 4)) = some z1 := by rw [← i1]; exact hgs 1 _ rfl
  have j2 : DataW.trod enc Try.prog w base spare held m 2 (([c1, c2, c3].drop 2).take (Try.prog.cellsOf 2)) = some z2 := by rw [← i2]; exact hgs 2 _ rfl
  simp only [Try.cellsI64h, Try.cellsIntH, Try.cellsB, List.drop_zero, List.drop_succ_cons, List.take_succ_cons, List.take_zero] at j0 j1 j2
  obtain ⟨k1, g1, _, _⟩ := DataW.trod_int Try.underlying3 j0
  obtain ⟨k2, g2, _⟩ := DataW.trod_bool Try.underlying4 j1
  obtain ⟨k3, g3, _, _⟩ := DataW.trod_int Try.underlying2 j2
  simp only [List.cons.injEq, and_true] at g0 g1 g2 g3 g4
  subst g0 g1 g2 g3 g4
  exact ⟨⟨k0, k1, k2, k3, k4, w0⟩, hc⟩
theorem read_touches {fuel : Nat} {cs : List Value} {x : DataW H × List MemPlace} (h : DataW.trod enc Try.prog w base spare held fuel 23 cs = some x) :
    ∃ v ts, cs = [v] ∧ TsAt w v ts := by
  obtain ⟨a2, len2, cap2, he, hm2, h2⟩ := read_elems Try.underlying23 Try.cellsTouch (by decide) h
  rcases open_slice Try.underlying23 h with ⟨rfl, _⟩ | ⟨a, len, cap, m, n, D, Pl, rfl, _, hlc, hcm, hm, _, hel⟩
  · exact ⟨_, [], rfl, SlAt.nil _ _, (fun a n c e => by cases e; exact Nat.le_refl _), by simp⟩
  · simp only [List.cons.injEq, and_true, Value.slice.injEq] at he
    obtain ⟨rfl, rfl, rfl⟩ := he
    have hcap : CapOk (.slice (some a) len cap) := fun a n c e => by cases e; exact hlc
    rcases h2 with rfl | ⟨b, off, ha, hel2⟩
    · exact ⟨_, [], rfl, ⟨by simp, .inr ⟨a, cap, rfl, fun j u hu => by simp at hu⟩⟩, hcap, by simp⟩
    · cases ha
      obtain ⟨l, hl, hp⟩ := list_of (p := fun i (t : TouchD) => ∀ j u, t.vals[j]? = some u → w.cell? ⟨b, off + i * 5 + j, none⟩ = some u) (n := len) fun i hi => by
        obtain ⟨cs', n, y, _, hc, htr⟩ := hel2 i hi
        exact read_touch htr hc
      subst hl
      exact ⟨_, l, rfl, sl_of (f := TouchD.vals) (n := 5) (fun _ => rfl) (by decide) hp, hcap, hm2⟩
theorem read_bytes {fuel : Nat} {cs : List Value} {x : DataW H × List MemPlace} (h : DataW.trod enc Try.prog w base spare held fuel 42 cs = some x) :
    ∃ v xs, cs = [v] ∧ BytesAt w v xs ∧ xs.length ≤ 9223372036854775807 ∧ ∀ x ∈ xs, 0 ≤ x ∧ x < 256 := by
  obtain ⟨a2, len2, cap2, he, hm2, h2⟩ := read_elems Try.underlying42 Try.cellsU8h (by decide) h
  rcases open_slice Try.underlying42 h with ⟨rfl, _⟩ | ⟨a, len, cap, m, n, D, Pl, rfl, _, hlc, hcm, hm, _, hel⟩
  · exact ⟨_, [], rfl, SlAt.nil _ _, by simp, by simp⟩
  · simp only [List.cons.injEq, and_true, Value.slice.injEq] at he
    obtain ⟨rfl, rfl, rfl⟩ := he
    rcases h2 with rfl | ⟨b, off, ha, hel2⟩
    · exact ⟨_, [], rfl, ⟨by simp, .inr ⟨a, cap, rfl, fun j u hu => by simp at hu⟩⟩, by simp, by simp⟩
    · cases ha
      obtain ⟨l, hl, hp⟩ := list_of (p := fun i (x : Int) => (∀ j u, [Value.int .u8 x][j]? = some u → w.cell? ⟨b, off + i * 1 + j, none⟩ = some u) ∧ 0 ≤ x ∧ x < 256) (n := len) fun i hi => by
        obtain ⟨cs', n, y, hcl, hc, htr⟩ := hel2 i hi
        obtain ⟨z, g, _, hw⟩ := DataW.trod_int Try.underlying5 htr
        subst g
        exact ⟨z, hc, u8_range hw⟩
      subst hl
      refine ⟨_, l, rfl, ?_, hm2, fun x hx => ?_⟩
      · have := sl_of (f := fun x => [Value.int .u8 x]) (n := 1) (w := w) (cap := cap) (fun _ => rfl) (by decide) fun i t ht => (hp i t ht).1
        rw [flat_one] at this
        exact this
      · obtain ⟨i, hi⟩ := List.getElem?_of_mem hx
        exact (hp i x hi).2
theorem read_rows8 {fuel : Nat} {cs : List Value} {x : DataW H × List MemPlace} (h : DataW.trod enc Try.prog w base spare held fuel 30 cs = some x) :
    ∃ v L, cs = [v] ∧ RowsU8At w v L := by
  obtain ⟨a2, len2, cap2, he, hm2, h2⟩ := read_elems Try.underlying30 Try.cellsU8s (by decide) h
  rcases open_slice Try.underlying30 h with ⟨rfl, _⟩ | ⟨a, len, cap, m, n, D, Pl, rfl, _, hlc, hcm, hm, _, hel⟩
  · exact ⟨_, [], rfl, by simp, [], SlAt.nil _ _, by simp⟩
  · simp only [List.cons.injEq, and_true, Value.slice.injEq] at he
    obtain ⟨rfl, rfl, rfl⟩ := he
    rcases h2 with rfl | ⟨b, off, ha, hel2⟩
    · exact ⟨_, [], rfl, by simp, [], ⟨by simp, .inr ⟨a, cap, rfl, fun j u hu => by simp at hu⟩⟩, by simp⟩
    · cases ha
      obtain ⟨l, hl, hp⟩ := list_of (p := fun i (p : Value × List Int) => (∀ j u, [p.1][j]? = some u → w.cell? ⟨b, off + i * 1 + j, none⟩ = some u) ∧ BytesAt w p.1 p.2 ∧ p.2.length ≤ 9223372036854775807 ∧ ∀ x ∈ p.2, 0 ≤ x ∧ x < 256) (n := len) fun i hi => by
        obtain ⟨cs', n, y, hcl, hc, htr⟩ := hel2 i hi
        obtain ⟨v, xs, g, h1⟩ := read_bytes htr
        subst g
        exact ⟨(v, xs), hc, h1⟩
      subst hl
      refine ⟨_, l.map Prod.snd, rfl, by simpa using hm2, l.map Prod.fst, ?_, fun i xs hi => ?_⟩
      · have := sl_of (f := fun p : Value × List Int => [p.1]) (n := 1) (w := w) (cap := cap) (fun _ => rfl) (by decide) fun i t ht => (hp i t ht).1
        rw [flat_one] at this
        rw [List.length_map]
        exact this
      · rw [List.getElem?_map] at hi
        cases hq : l[i]? with
        | none => rw [hq] at hi; cases hi
        | some p =>
          rw [hq] at hi
          cases hi
          exact ⟨p.1, by rw [List.getElem?_map, hq]; rfl, (hp i p hq).2⟩
end
end Go.Proofs.Ytegejcmihojhbaa
