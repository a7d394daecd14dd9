/-
  Rows of the call's own: a shorter look; clearing what stands behind; one element set.
  No condition.
-/
import Derived.Test.YtecffdgnmnpmbaaPkC8
import Derived.Laws.OwnMore
namespace Go.Proofs.Ytecffdgnmnpmbaa
open Go Go.RowKit Go.Maps

/-- A shorter look at an owned row. -/
theorem own_take {w : World} {e : TypeId} {size b n cap i : Nat} {xs : List Value} (h : w.ownsRow 0 e size (.slice (some ⟨b, 0, none⟩) n cap) n xs) (hi : i ≤ n) :
    w.ownsRow 0 e size (.slice (some ⟨b, 0, none⟩) i cap) i (xs.take (i * size)) := by
  rcases h.2 with ⟨h', _⟩ | ⟨g, cap', cur, h', hb, hg, hnc, hcm, hcs, htake⟩
  · simp at h'
  · simp only [Value.slice.injEq, Option.some.injEq, Addr.mk.injEq, and_true, true_and] at h'
    obtain ⟨rfl, rfl⟩ := h'
    have hle : i * size ≤ n * size := Nat.mul_le_mul_right _ hi
    refine ⟨by rw [List.length_take, h.1]; omega, .inr ⟨b, cap, cur, rfl, hb, hg, by omega, hcm, hcs, ?_⟩⟩
    rw [← htake, List.take_take]
    congr 1
    omega
/-- 'clear' of what stands behind what is owned: what is owned stays. -/
theorem run_clear_many {P : Program} (w : World) (t ty e : TypeId) (z : Value) (size m : Nat) (ht : P.underlying t = some (.slice e)) (hz : ∀ w, (zeroValue e).run P w = .ok z w) (hzs : z.cells.size = size) (hz1 : ∀ u ∈ (Builtin.zeroCells z.cells m).toList, u.oneCell' = true)
    (b n cap : Nat) (xs : List Value) (hown : w.ownsRow 0 e size (.slice (some ⟨b, 0, none⟩) n cap) n xs) (hm : 0 < m) (hc : n + m ≤ cap) (c : Nat) :
    ∃ w', (Builtin.clear_ #[t] ty #[.slice (some ⟨b, n * size, none⟩) m c]).run P w = .ok (.tuple #[]) w' ∧ w'.ownsRow 0 e size (.slice (some ⟨b, 0, none⟩) n cap) n xs ∧ w.grownBy w' (some b) := by
  rcases hown.2 with ⟨h', _⟩ | ⟨g, cap', cur, h', hb, hg, hnc, hcm, hcs, htake⟩
  · simp at h'
  simp only [Value.slice.injEq, Option.some.injEq, Addr.mk.injEq, and_true, true_and] at h'
  obtain ⟨rfl, rfl⟩ := h'
  have hfit : n * size + 0 + (Builtin.zeroCells z.cells m).toList.length ≤ cur.size := by
    rw [hcs, Array.length_toList, size_zeroCells, hzs]
    have : (n + m) * size ≤ cap * size := Nat.mul_le_mul_right _ hc
    rw [Nat.add_mul] at this
    omega
  have hst := run_storeCells_at P b (n * size) e (Builtin.zeroCells z.cells m).toList 0 cur w hg hfit hz1
  obtain ⟨m', rfl⟩ : ∃ m', m = m' + 1 := ⟨m - 1, by omega⟩
  have hrun : (Builtin.clear_ #[t] ty #[.slice (some ⟨b, n * size, none⟩) (m' + 1) c]).run P w = .ok (.tuple #[]) (w.setRow b (cur.toList.take (n * size) ++ (Builtin.zeroCells z.cells (m' + 1)).toList ++ cur.toList.drop (n * size + (Builtin.zeroCells z.cells (m' + 1)).toList.length)).toArray) := by
    simp only [Nat.add_zero] at hst
    simp [Builtin.clear_, run_underlying ht, hz, hst]
  refine ⟨_, hrun, ⟨hown.1, .inr ⟨b, cap, _, rfl, hb, setRow_heap w b cur _ e _ hg, hnc, hcm, ?_, ?_⟩⟩, ⟨rfl, rfl, rfl, by simp, fun k _ hk => setRow_other w b k _ (fun e => hk (by simp [e]))⟩⟩
  · simp only [List.size_toArray, List.length_append, List.length_take, List.length_drop, Array.length_toList]
    simp only [Array.length_toList] at hfit
    omega
  · have hle : n * size ≤ cur.toList.length := by rw [Array.length_toList]; omega
    rw [← htake]
    show List.take (n * size) (cur.toList.take (n * size) ++ (Builtin.zeroCells z.cells (m' + 1)).toList ++ cur.toList.drop (n * size + (Builtin.zeroCells z.cells (m' + 1)).toList.length)) = _
    rw [List.append_assoc, List.take_append_of_le_length (by rw [List.length_take]; omega), List.take_take]
    congr 1
    omega
theorem zeros_one (z : Array Value) (hz : ∀ i, i < z.size → (z[i]!).oneCell' = true) (m : Nat) : ∀ u ∈ (Builtin.zeroCells z m).toList, u.oneCell' = true := by
  intro u hu
  simp only [Builtin.zeroCells, Array.toList_map, List.mem_map, Array.toList_range, List.mem_range] at hu
  obtain ⟨i, hi, rfl⟩ := hu
  refine hz _ (Nat.mod_lt _ ?_)
  rcases Nat.eq_zero_or_pos z.size with h | h
  · rw [h] at hi; omega
  · exact h
theorem flat_set (ps : List (Int × Int)) (i : Nat) (p : Int × Int) : ((ps.flatMap hold2).set (i * 2) (.int .i64 p.1)).set (i * 2 + 1) (.int .u8 p.2) = (ps.set i p).flatMap hold2 := by
  induction ps generalizing i with
  | nil => rfl
  | cons x ps ih =>
    cases i with
    | zero => rfl
    | succ i =>
      have e : (i + 1) * 2 = i * 2 + 1 + 1 := by omega
      rw [e]
      simp only [List.flatMap_cons, List.cons_append, List.nil_append, List.set_cons_succ, ih]
theorem OwnH.set {w : World} {b cap : Nat} {ps : List (Int × Int)} (h : OwnH w (.slice (some ⟨b, 0, none⟩) ps.length cap) ps) (i : Nat) (p : Int × Int) :
    OwnH ((w.setCell ⟨b, i * 2, none⟩ (.int .i64 p.1)).setCell ⟨b, i * 2 + 1, none⟩ (.int .u8 p.2)) (.slice (some ⟨b, 0, none⟩) (ps.set i p).length cap) (ps.set i p) := by
  have h1 := (World.ownsRow.stored (World.ownsRow.stored h (i * 2) (.int .i64 p.1)).1 (i * 2 + 1) (.int .u8 p.2)).1
  rw [flat_set] at h1
  unfold OwnH
  rw [List.length_set]
  exact h1
theorem OwnH.free {w : World} {b n cap : Nat} {ps : List (Int × Int)} (h : OwnH w (.slice (some ⟨b, 0, none⟩) n cap) ps) (hn : n = ps.length) (c : Nat) : w.frozen? ⟨b, c, none⟩ = false := by
  subst hn
  exact World.ownsRow.frozenAt h c
theorem flat_take (ps : List (Int × Int)) (i : Nat) : (ps.flatMap hold2).take (i * 2) = (ps.take i).flatMap hold2 := by
  induction ps generalizing i with
  | nil => simp
  | cons x ps ih =>
    cases i with
    | zero => simp
    | succ i =>
      have e : (i + 1) * 2 = i * 2 + 1 + 1 := by omega
      rw [e]
      simp only [List.flatMap_cons, List.cons_append, List.nil_append, List.take_succ_cons, ih]
theorem OwnH.take {w : World} {b n cap i : Nat} {ps : List (Int × Int)} (h : OwnH w (.slice (some ⟨b, 0, none⟩) n cap) ps) (hn : n = ps.length) (hi : i ≤ ps.length) : OwnH w (.slice (some ⟨b, 0, none⟩) i cap) (ps.take i) := by
  subst hn
  have h1 := own_take h hi
  rw [flat_take] at h1
  have e : (ps.take i).length = i := by rw [List.length_take]; omega
  unfold OwnH
  rw [e]; exact h1
end Go.Proofs.Ytecffdgnmnpmbaa
