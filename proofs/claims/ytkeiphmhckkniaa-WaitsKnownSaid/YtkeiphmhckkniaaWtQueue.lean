/-
  A row of integers that loses its first ones (l = l[1:]) and gains at its end (append): of the call's own.
  No condition but sizes.
-/
import Derived.Test.YtkeiphmhckkniaaHsMem
import Derived.ArgAppend
namespace Go.Proofs.Ytkeiphmhckkniaa
open Go Go.RowKit

/-- v reads as l; its block is of integers alone, and may be written. -/
def QAt (w : World) (v : Value) (l : List Int) : Prop :=
  ∃ b off cap cur, v = .slice (some ⟨b, off, none⟩) l.length cap ∧ w.heap[b]? = some (.cells cur 3 (0, 0)) ∧ off + cap ≤ cur.size ∧ l.length ≤ cap ∧ ∀ (j : Nat) (x : Int), l[j]? = some x → cur[off + j]? = some (.int .i64 x)
theorem QAt.fr {w w' : World} {v : Value} {l : List Int} {S : Nat → Prop} (h : QAt w v l) (hf : Fr w w' S) (hd : ∀ k, v.ownBlock = some k → ¬ S k) : QAt w' v l := by
  obtain ⟨b, off, cap, cur, rfl, h1, h2, h3, h4⟩ := h
  exact ⟨b, off, cap, cur, rfl, (hf.block b (Array.getElem?_eq_some_iff.1 h1).1 (hd b rfl)).trans h1, h2, h3, h4⟩
theorem QAt.lt {w : World} {v : Value} {l : List Int} (h : QAt w v l) : ∀ k, v.ownBlock = some k → k < w.heap.size := by
  obtain ⟨b, off, cap, cur, rfl, h1, _⟩ := h
  intro k hk
  cases hk
  exact (Array.getElem?_eq_some_iff.1 h1).1
theorem QAt.one (w : World) (y : Int) : QAt (w.alloc (.cells #[.int .i64 y] 3)) (.slice (some ⟨w.heap.size, 0, none⟩) 1 1) [y] :=
  ⟨w.heap.size, 0, 1, #[.int .i64 y], rfl, heap_alloc_new w _, by simp, by simp, fun j x hx => by
    have hj := (List.getElem?_eq_some_iff.1 hx).1
    simp at hj
    subst hj
    simp at hx
    subst hx
    rfl⟩
theorem QAt.head {w : World} {v : Value} {x : Int} {l : List Int} (h : QAt w v (x :: l)) : ∃ b off cap, v = .slice (some ⟨b, off, none⟩) (l.length + 1) cap ∧ w.cell? ⟨b, off, none⟩ = some (.int .i64 x) ∧ l.length + 1 ≤ cap := by
  obtain ⟨b, off, cap, cur, rfl, h1, h2, h3, h4⟩ := h
  refine ⟨b, off, cap, rfl, ?_, h3⟩
  have := h4 0 x rfl
  simp only [World.cell?, h1]
  simpa using this
/-- The first one goes. -/
theorem QAt.tail {w : World} {b off cap : Nat} {x : Int} {l : List Int} (h : QAt w (.slice (some ⟨b, off, none⟩) (l.length + 1) cap) (x :: l)) : QAt w (if cap = 1 then .slice (some ⟨b, off, none⟩) 0 0 else .slice (some ⟨b, off + 1, none⟩) l.length (cap - 1)) l := by
  obtain ⟨b', off', cap', cur, hv, h1, h2, h3, h4⟩ := h
  simp only [Value.slice.injEq, Option.some.injEq, Addr.mk.injEq] at hv
  obtain ⟨⟨rfl, rfl, -⟩, -, rfl⟩ := hv
  simp only [List.length_cons] at h3
  by_cases e : cap = 1
  · rw [if_pos e]
    have hl : l = [] := List.eq_nil_of_length_eq_zero (by omega)
    subst hl
    exact ⟨b, off, 0, cur, rfl, h1, by omega, by simp, fun j y hy => by simp at hy⟩
  · rw [if_neg e]
    exact ⟨b, off + 1, cap - 1, cur, rfl, h1, by omega, by omega, fun j y hy => by rw [show off + 1 + j = off + (j + 1) by omega]; exact h4 (j + 1) y (by simpa using hy)⟩
/-- One more. -/
theorem run_qapp {P : Program} {w : World} {t ty : TypeId} (hT : SlT P t 3 1 8) {v : Value} {l : List Int} (h : QAt w v l) {sb so sc : Nat} {y : Int} (hs : w.cell? ⟨sb, so, none⟩ = some (.int .i64 y)) (hl : l.length ≤ 100000) :
    ∃ v' w', (Builtin.append_ #[t, t] ty #[v, .slice (some ⟨sb, so, none⟩) 1 sc]).run P w = .ok v' w' ∧ QAt w' v' (l ++ [y]) ∧ w.grownBy w' v.ownBlock ∧ (v'.ownBlock = v.ownBlock ∨ ∀ k, v'.ownBlock = some k → w.heap.size ≤ k) := by
  obtain ⟨i, z, ht, hi, hz, hsz, hby, hzs, hs0, hb⟩ := hT
  obtain ⟨b, off, cap, cur, rfl, h1, h2, h3, h4⟩ := h
  have hsz1 : i.size = 1 := hsz
  have hnews : ∀ j u, [Value.int .i64 y][j]? = some u → w.cell? ((⟨sb, so, none⟩ : Addr).add j) = some u := fun j u hu => by
    have hj := (List.getElem?_eq_some_iff.1 hu).1
    simp at hj
    subst hj
    simp at hu
    subst hu
    rw [Addr.add_lit]; exact hs
  by_cases hr : l.length + 1 ≤ cap
  · have hlt : off + l.length < cur.size := by omega
    have hc : w.cell? ⟨b, off + l.length, none⟩ = some cur[off + l.length] := by simp [World.cell?, h1, hlt]
    have hrun := run_append_room_cells (P := P) w t ty 3 i ht hi b off l.length cap ⟨sb, so, none⟩ 1 sc [.int .i64 y] (by simp [hsz1]) hnews (fun u hu => by rw [List.mem_singleton.1 hu]; rfl) hr
      (fun j hj => by simp at hj; subst hj; rw [hsz1, Nat.mul_one, Nat.add_zero, hc]; rfl) (fun j hj => by simp [World.frozen?, h1])
    rw [hsz1, Nat.mul_one] at hrun
    refine ⟨_, _, hrun, ⟨b, off, cap, cur.setIfInBounds (off + l.length) (.int .i64 y), by simp, heap_setCell_same w b _ cur 3 _ h1, by simpa using h2, by simpa using hr, fun j x hx => ?_⟩, ?_, .inl rfl⟩
    · rcases Nat.lt_or_ge j l.length with hj | hj
      · rw [List.getElem?_append_left hj] at hx
        rw [Array.getElem?_setIfInBounds_ne (by omega)]
        exact h4 j x hx
      · rw [List.getElem?_append_right hj] at hx
        have hj2 := (List.getElem?_eq_some_iff.1 hx).1
        simp at hj2
        obtain rfl : j = l.length := by omega
        simp at hx
        subst hx
        rw [Array.getElem?_setIfInBounds_self_of_lt hlt]
    · exact ⟨rfl, rfl, rfl, by simp [World.setCells, World.setCell], fun k _ hk => Below.heap_setCell _ _ _ _ (fun e => hk (by rw [e]; rfl))⟩
  · have holds : ∀ j u, (l.map (Value.int .i64))[j]? = some u → w.cell? ((⟨b, off, none⟩ : Addr).add j) = some u := fun j u hu => by
      rw [List.getElem?_map] at hu
      cases hx : l[j]? with
      | none => rw [hx] at hu; cases hu
      | some x =>
        rw [hx] at hu
        cases hu
        rw [Addr.add_lit]
        simp only [World.cell?, h1]
        simpa using h4 j x hx
    obtain ⟨v', w', g1, g2, g3⟩ := run_append_arg_grows (P := P) w t ty 3 i z 1 8 ht hi hz hsz hby hzs hs0 ⟨b, off, none⟩ l.length cap (l.map (Value.int .i64)) (by simp) holds ⟨sb, so, none⟩ 1 sc [.int .i64 y] (by simp) hnews (by omega) (by unfold maxLen; omega) (by omega)
    rcases g2.2 with ⟨_, e⟩ | ⟨g, cap', cur', rfl, k1, k2, k3, k4, k5, k6⟩
    · omega
    · refine ⟨_, w', g1, ⟨g, 0, cap', cur', by simp, k2, by omega, by simpa using k3, fun j x hx => ?_⟩, ⟨g3.os, g3.tape, g3.output, g3.size, fun k hk hne => g3.block k hk (by simp)⟩, ?_⟩
      · have hj := (List.getElem?_eq_some_iff.1 hx).1
        have e1 : (cur'.toList.take ((l.length + 1) * 1))[j]? = some (.int .i64 x) := by
          rw [k6]
          have : (l.map (Value.int .i64) ++ [Value.int .i64 y]) = (l ++ [y]).map (Value.int .i64) := by simp
          rw [this, List.getElem?_map, hx]
          rfl
        rw [List.getElem?_take_of_lt (by simp at hj; omega)] at e1
        rw [Nat.zero_add]
        simpa using e1
      · exact .inr fun k hk => by cases hk; exact k1
end Go.Proofs.Ytkeiphmhckkniaa
