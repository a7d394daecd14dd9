/-
 Instructions that came in, read.
 No condition.
-/
import Derived.Test.YtgpekgnhbccnoaaGreatPkY2
import Derived.Test.YtgpekgnhbccnoaaGreatPkY4
import Derived.Test.YtgpekgnhbccnoaaGreatPkY17
namespace Go.Proofs.YtgpekgnhbccnoaaGreat
open Go Go.RowKit Go.ChangeShapes Go.WideShapes Go.Deep

theorem Tryz.cellsTerm : Tryz.prog.cellsOf 84 = 3 := by kernel_rfl
theorem Tryz.cellsInstr : Tryz.prog.cellsOf 81 = 13 := by kernel_rfl
theorem Tryz.cellsTermsR : Tryz.prog.cellsOf 77 = 1 := by kernel_rfl
theorem Tryz.cellsValsR : Tryz.prog.cellsOf 79 = 1 := by kernel_rfl
theorem Tryz.cellsRU8 : Tryz.prog.cellsOf 5 = 1 := by kernel_rfl
theorem Tryz.cellsRMode : Tryz.prog.cellsOf 48 = 1 := by kernel_rfl
theorem Tryz.cellsRI64 : Tryz.prog.cellsOf 2 = 1 := by kernel_rfl
theorem Tryz.cellsRInt : Tryz.prog.cellsOf 3 = 1 := by kernel_rfl
theorem Tryz.cellsRBool : Tryz.prog.cellsOf 4 = 1 := by kernel_rfl
theorem list3t {α : Type} {l : List α} (h : l.length = 3) : ∃ a b c, l = [a, b, c] := by
 match l, h with
 | [a, b, c], _ => exact ⟨a, b, c, rfl⟩
theorem list13 {α : Type} {l : List α} (h : l.length = 13) : ∃ a b c d e f g i j k m n p, l = [a, b, c, d, e, f, g, i, j, k, m, n, p] := by
 match l, h with
 | [a, b, c, d, e, f, g, i, j, k, m, n, p], _ => exact ⟨a, b, c, d, e, f, g, i, j, k, m, n, p, rfl⟩
section
variable {H : Type} {enc : TypeId × Value → H} {w : World} {base : Nat} {spare : Nat → Bool} {held : Bool}
theorem read_term {fuel : Nat} {cs : List Value} {x : DataW H × List MemPlace} (h : DataW.trod enc Tryz.prog w base spare held fuel 84 cs = some x) : ∃ t : TermD, cs = t.vals := by
 obtain ⟨xs, n, _, _, hl, hlen, hfs⟩ := DataW.trod_struct Tryz.underlying84 h
 rw [Tryz.cellsTerm] at hl
 obtain ⟨c0, c1, c2, rfl⟩ := list3t hl
 have hx : ∀ i, i < 3 → ∃ y, xs[i]? = some y := fun i hi => ⟨_, List.getElem?_eq_getElem (by rw [hlen]; exact hi)⟩
 obtain ⟨y0, e0⟩ := hx 0 (by decide)
 obtain ⟨y1, e1⟩ := hx 1 (by decide)
 obtain ⟨y2, e2⟩ := hx 2 (by decide)
 have f0 : DataW.trod enc Tryz.prog w base spare held n 5 (([c0, c1, c2].drop 0).take (Tryz.prog.cellsOf 5)) = some y0 := by rw [← e0]; exact hfs 0 _ rfl
 have f1 : DataW.trod enc Tryz.prog w base spare held n 2 (([c0, c1, c2].drop 1).take (Tryz.prog.cellsOf 2)) = some y1 := by rw [← e1]; exact hfs 1 _ rfl
 have f2 : DataW.trod enc Tryz.prog w base spare held n 3 (([c0, c1, c2].drop 2).take (Tryz.prog.cellsOf 3)) = some y2 := by rw [← e2]; exact hfs 2 _ rfl
 simp only [Tryz.cellsRI64, Tryz.cellsRInt, Tryz.cellsRU8, List.drop_zero, List.drop_succ_cons, List.take_succ_cons, List.take_zero] at f0 f1 f2
 obtain ⟨k0, g0, _, w0⟩ := DataW.trod_int Tryz.underlying5 f0
 obtain ⟨k1, g1, _, w1⟩ := DataW.trod_int Tryz.underlying2 f1
 obtain ⟨k2, g2, _, w2⟩ := DataW.trod_int Tryz.underlying3 f2
 simp only [List.cons.injEq, and_true] at g0 g1 g2
 subst g0 g1 g2
 exact ⟨⟨k0, k1, k2⟩, rfl⟩
theorem read_terms {fuel : Nat} {cs : List Value} {x : DataW H × List MemPlace} (h : DataW.trod enc Tryz.prog w base spare held fuel 77 cs = some x) : ∃ v l, cs = [v] ∧ TermsAt w v l := by
 obtain ⟨a2, len2, cap2, he, hm2, h2⟩ := read_elems Tryz.underlying77 Tryz.cellsTerm (by decide) h
 rcases open_slice Tryz.underlying77 h with ⟨rfl, _⟩ | ⟨a, len, cap, m, n, D, Pl, rfl, _, hlc, hcm, hm, _, hel⟩
 ·exact ⟨_, [], rfl, SlAt.nil _ _⟩
 ·simp only [List.cons.injEq, and_true, Value.slice.injEq] at he
  obtain ⟨rfl, rfl, rfl⟩ := he
  rcases h2 with rfl | ⟨b, off, ha, hel2⟩
  ·exact ⟨_, [], rfl, ⟨by simp, .inr ⟨a, cap, rfl, fun j u hu => by simp at hu⟩⟩⟩
  ·cases ha
   obtain ⟨l, hl, hp⟩ := list_of (p := fun i (t : TermD) => ∀ j u, t.vals[j]? = some u → w.cell? ⟨b, off + i * 3 + j, none⟩ = some u) (n := len) fun i hi => by
    obtain ⟨cs', n, y, _, hc, htr⟩ := hel2 i hi
    obtain ⟨t, rfl⟩ := read_term htr
    exact ⟨t, hc⟩
   subst hl
   exact ⟨_, l, rfl, sl_of (f := TermD.vals) (n := 3) (fun _ => rfl) (by decide) hp⟩
theorem read_vals {fuel : Nat} {cs : List Value} {x : DataW H × List MemPlace} (h : DataW.trod enc Tryz.prog w base spare held fuel 79 cs = some x) : ∃ v l, cs = [v] ∧ ValsAt w v l := by
 obtain ⟨a2, len2, cap2, he, hm2, h2⟩ := read_elems Tryz.underlying79 Tryz.cellsTermsR (by decide) h
 rcases open_slice Tryz.underlying79 h with ⟨rfl, _⟩ | ⟨a, len, cap, m, n, D, Pl, rfl, _, hlc, hcm, hm, _, hel⟩
 ·exact ⟨_, [], rfl, none, 0, rfl, .inl rfl⟩
 ·simp only [List.cons.injEq, and_true, Value.slice.injEq] at he
  obtain ⟨rfl, rfl, rfl⟩ := he
  rcases h2 with rfl | ⟨b, off, ha, hel2⟩
  ·exact ⟨_, [], rfl, some a, cap, rfl, .inl rfl⟩
  ·cases ha
   obtain ⟨l, hl, hp⟩ := list_of (p := fun i (t : List TermD) => ∃ tv, w.cell? ⟨b, off + i, none⟩ = some tv ∧ TermsAt w tv t) (n := len) fun i hi => by
    obtain ⟨cs', n, y, _, hc, htr⟩ := hel2 i hi
    obtain ⟨v, t, rfl, ht⟩ := read_terms htr
    have h0 := hc 0 v rfl
    rw [Nat.mul_one, Nat.add_zero] at h0
    exact ⟨t, v, h0, ht⟩
   subst hl
   exact ⟨_, l, rfl, _, cap, rfl, .inr ⟨b, off, rfl, hp⟩⟩
theorem read_instr {fuel : Nat} {cs : List Value} {x : DataW H × List MemPlace} (h : DataW.trod enc Tryz.prog w base spare held fuel 81 cs = some x) : ∃ (n : InstrD) (kv vv : Value), cs = n.cs kv vv ∧ TermsAt w kv n.key ∧ ValsAt w vv n.vals ∧ 0 ≤ n.op ∧ n.op < 256 := by
 obtain ⟨xs, n, _, _, hl, hlen, hfs⟩ := DataW.trod_struct Tryz.underlying81 h
 rw [Tryz.cellsInstr] at hl
 obtain ⟨c0, c1, c2, c3, c4, c5, c6, c7, c8, c9, c10, c11, c12, rfl⟩ := list13 hl
 have hx : ∀ i, i < 13 → ∃ y, xs[i]? = some y := fun i hi => ⟨_, List.getElem?_eq_getElem (by rw [hlen]; exact hi)⟩
 obtain ⟨y0, e0⟩ := hx 0 (by decide)
 obtain ⟨y1, e1⟩ := hx 1 (by decide)
 obtain ⟨y2, e2⟩ := hx 2 (by decide)
 obtain ⟨y3, e3⟩ := hx 3 (by decide)
 obtain ⟨y4, e4⟩ := hx 4 (by decide)
 obtain ⟨y5, e5⟩ := hx 5 (by decide)
 obtain ⟨y6, e6⟩ := hx 6 (by decide)
 obtain ⟨y7, e7⟩ := hx 7 (by decide)
 obtain ⟨y8, e8⟩ := hx 8 (by decide)
 obtain ⟨y9, e9⟩ := hx 9 (by decide)
 obtain ⟨y10, e10⟩ := hx 10 (by decide)
 obtain ⟨y11, e11⟩ := hx 11 (by decide)
 obtain ⟨y12, e12⟩ := hx 12 (by decide)
 have f0 : DataW.trod enc Tryz.prog w base spare held n 5 (([c0, c1, c2, c3, c4, c5, c6, c7, c8, c9, c10, c11, c12].drop 0).take (Tryz.prog.cellsOf 5)) = some y0 := by rw [← e0]; exact hfs 0 _ rfl
 have f1 : DataW.trod enc Tryz.prog w base spare held n 3 (([c0, c1, c2, c3, c4, c5, c6, c7, c8, c9, c10, c11, c12].drop 1).take (Tryz.prog.cellsOf 3)) = some y1 := by rw [← e1]; exact hfs 1 _ rfl
 have f2 : DataW.trod enc Tryz.prog w base spare held n 48 (([c0, c1, c2, c3, c4, c5, c6, c7, c8, c9, c10, c11, c12].drop 2).take (Tryz.prog.cellsOf 48)) = some y2 := by rw [← e2]; exact hfs 2 _ rfl
 have f3 : DataW.trod enc Tryz.prog w base spare held n 3 (([c0, c1, c2, c3, c4, c5, c6, c7, c8, c9, c10, c11, c12].drop 3).take (Tryz.prog.cellsOf 3)) = some y3 := by rw [← e3]; exact hfs 3 _ rfl
 have f4 : DataW.trod enc Tryz.prog w base spare held n 4 (([c0, c1, c2, c3, c4, c5, c6, c7, c8, c9, c10, c11, c12].drop 4).take (Tryz.prog.cellsOf 4)) = some y4 := by rw [← e4]; exact hfs 4 _ rfl
 have f5 : DataW.trod enc Tryz.prog w base spare held n 3 (([c0, c1, c2, c3, c4, c5, c6, c7, c8, c9, c10, c11, c12].drop 5).take (Tryz.prog.cellsOf 3)) = some y5 := by rw [← e5]; exact hfs 5 _ rfl
 have f6 : DataW.trod enc Tryz.prog w base spare held n 3 (([c0, c1, c2, c3, c4, c5, c6, c7, c8, c9, c10, c11, c12].drop 6).take (Tryz.prog.cellsOf 3)) = some y6 := by rw [← e6]; exact hfs 6 _ rfl
 have f7 : DataW.trod enc Tryz.prog w base spare held n 3 (([c0, c1, c2, c3, c4, c5, c6, c7, c8, c9, c10, c11, c12].drop 7).take (Tryz.prog.cellsOf 3)) = some y7 := by rw [← e7]; exact hfs 7 _ rfl
 have f8 : DataW.trod enc Tryz.prog w base spare held n 4 (([c0, c1, c2, c3, c4, c5, c6, c7, c8, c9, c10, c11, c12].drop 8).take (Tryz.prog.cellsOf 4)) = some y8 := by rw [← e8]; exact hfs 8 _ rfl
 have f9 : DataW.trod enc Tryz.prog w base spare held n 2 (([c0, c1, c2, c3, c4, c5, c6, c7, c8, c9, c10, c11, c12].drop 9).take (Tryz.prog.cellsOf 2)) = some y9 := by rw [← e9]; exact hfs 9 _ rfl
 have f10 : DataW.trod enc Tryz.prog w base spare held n 2 (([c0, c1, c2, c3, c4, c5, c6, c7, c8, c9, c10, c11, c12].drop 10).take (Tryz.prog.cellsOf 2)) = some y10 := by rw [← e10]; exact hfs 10 _ rfl
 have f11 : DataW.trod enc Tryz.prog w base spare held n 77 (([c0, c1, c2, c3, c4, c5, c6, c7, c8, c9, c10, c11, c12].drop 11).take (Tryz.prog.cellsOf 77)) = some y11 := by rw [← e11]; exact hfs 11 _ rfl
 have f12 : DataW.trod enc Tryz.prog w base spare held n 79 (([c0, c1, c2, c3, c4, c5, c6, c7, c8, c9, c10, c11, c12].drop 12).take (Tryz.prog.cellsOf 79)) = some y12 := by rw [← e12]; exact hfs 12 _ rfl
 simp only [Tryz.cellsRBool, Tryz.cellsRI64, Tryz.cellsRInt, Tryz.cellsRMode, Tryz.cellsRU8, Tryz.cellsTermsR, Tryz.cellsValsR, List.drop_zero, List.drop_succ_cons, List.take_succ_cons, List.take_zero] at f0 f1 f2 f3 f4 f5 f6 f7 f8 f9 f10 f11 f12
 obtain ⟨k0, g0, _, w0⟩ := DataW.trod_int Tryz.underlying5 f0
 obtain ⟨k1, g1, _, w1⟩ := DataW.trod_int Tryz.underlying3 f1
 obtain ⟨k2, g2, _, w2⟩ := DataW.trod_int Tryz.underlying48 f2
 obtain ⟨k3, g3, _, w3⟩ := DataW.trod_int Tryz.underlying3 f3
 obtain ⟨k4, g4, _⟩ := DataW.trod_bool Tryz.underlying4 f4
 obtain ⟨k5, g5, _, w5⟩ := DataW.trod_int Tryz.underlying3 f5
 obtain ⟨k6, g6, _, w6⟩ := DataW.trod_int Tryz.underlying3 f6
 obtain ⟨k7, g7, _, w7⟩ := DataW.trod_int Tryz.underlying3 f7
 obtain ⟨k8, g8, _⟩ := DataW.trod_bool Tryz.underlying4 f8
 obtain ⟨k9, g9, _, w9⟩ := DataW.trod_int Tryz.underlying2 f9
 obtain ⟨k10, g10, _, w10⟩ := DataW.trod_int Tryz.underlying2 f10
 obtain ⟨k11, q11, g11, r11⟩ := read_terms f11
 obtain ⟨k12, q12, g12, r12⟩ := read_vals f12
 simp only [List.cons.injEq, and_true] at g0 g1 g2 g3 g4 g5 g6 g7 g8 g9 g10 g11 g12
 subst g0 g1 g2 g3 g4 g5 g6 g7 g8 g9 g10 g11 g12
 exact ⟨⟨k0, k1, k2, k3, k4, k5, k6, k7, k8, k9, k10, q11, q12⟩, c11, c12, rfl, r11, r12, u8_range w0⟩
theorem read_code {fuel : Nat} {cs : List Value} {x : DataW H × List MemPlace} (h : DataW.trod enc Tryz.prog w base spare held fuel 22 cs = some x) : ∃ v L, cs = [v] ∧ CodeAt w v L ∧ CapOk v ∧ L.length ≤ 9223372036854775807 ∧ ∀ n ∈ L, 0 ≤ n.op ∧ n.op < 256 := by
 obtain ⟨a2, len2, cap2, he, hm2, h2⟩ := read_elems Tryz.underlying22 Tryz.cellsInstr (by decide) h
 rcases open_slice Tryz.underlying22 h with ⟨rfl, _⟩ | ⟨a, len, cap, m, n, D, Pl, rfl, _, hlc, hcm, hm, _, hel⟩
 ·exact ⟨_, [], rfl, ⟨none, 0, rfl, .inl rfl⟩, (fun a n c e => by cases e; exact Nat.le_refl _), by simp, by simp⟩
 ·simp only [List.cons.injEq, and_true, Value.slice.injEq] at he
  obtain ⟨rfl, rfl, rfl⟩ := he
  have hcap : CapOk (.slice (some a) len cap) := fun a n c e => by cases e; exact hlc
  rcases h2 with rfl | ⟨b, off, ha, hel2⟩
  ·exact ⟨_, [], rfl, ⟨some a, cap, rfl, .inl rfl⟩, hcap, by simp, by simp⟩
  ·cases ha
   obtain ⟨l, hl, hp⟩ := list_of (p := fun i (t : InstrD) => InstrAt w b (off + i * 13) t ∧ 0 ≤ t.op ∧ t.op < 256) (n := len) fun i hi => by
    obtain ⟨cs', n, y, _, hc, htr⟩ := hel2 i hi
    obtain ⟨t, kv, vv, rfl, h1, h2, h3⟩ := read_instr htr
    exact ⟨t, ⟨kv, vv, hc, h1, h2⟩, h3⟩
   subst hl
   exact ⟨_, l, rfl, ⟨_, cap, rfl,   .inr ⟨b, off, rfl, fun i n hn => (hp i n hn).1⟩⟩, hcap, hm2, fun n hn => by
    obtain ⟨i, hi⟩ := List.getElem?_of_mem hn
    exact (hp i n hi).2⟩
end
end Go.Proofs.YtgpekgnhbccnoaaGreat
