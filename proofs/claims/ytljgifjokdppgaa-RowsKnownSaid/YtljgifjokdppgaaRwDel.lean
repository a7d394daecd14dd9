/-
  Walk of slices.Delete over rows.
  No condition but sizes.
-/
import Derived.Test.YtljgifjokdppgaaRwAll
import Derived.StillTailTactics
namespace Go.Proofs.Ytljgifjokdppgaa
open Go Go.RowKit

/-- A shorter look at an owned row. -/
theorem own_take {w : World} {e : TypeId} {size b n cap i : Nat} {xs : List Value} (h : w.ownsRow 0 e size (.slice (some ⟨b, 0, none⟩) n cap) n xs) (hi : i ≤ n) :
    w.ownsRow 0 e size (.slice (some ⟨b, 0, none⟩) i cap) i (xs.take (i * size)) := by
  rcases h.2 with ⟨h', _⟩ | ⟨g, cap', cur, h', hb, hg, hnc, hcm, hcs, htake⟩
  · simp at h'
  · simp only [Value.slice.injEq, Option.some.injEq, Addr.mk.injEq, and_true, true_and] at h'
    obtain ⟨rfl, rfl⟩ := h'
    have hle : i * size ≤ n * size := Nat.mul_le_mul_right _ hi
    refine ⟨by rw [List.length_take, h.1]; omega, .inr ⟨b, cap, cur, rfl, hb, hg, by omega, hcm, hcs, ?_⟩⟩
    rw [← htake, List.take_take]
    congr 1
    omega

theorem zeroCells_zero (z : Array Value) : Builtin.zeroCells z 0 = #[] := by simp [Builtin.zeroCells]
theorem zeroCells_one {z : Array Value} : Builtin.zeroCells z 1 = z := by
  apply Array.ext_getElem?
  intro j
  simp only [Builtin.zeroCells, Nat.one_mul, Array.getElem?_map]
  by_cases hj : j < z.size
  · have : (Array.range z.size)[j]? = some j := by simp [hj]
    rw [this]
    simp [Nat.mod_eq_of_lt hj, hj]
  · have : (Array.range z.size)[j]? = none := by simp; omega
    rw [this]
    simp; omega
/-- 'clear' of one element behind what is owned: what is owned stays. -/
theorem run_clear_one {P : Program} (w : World) (t ty e : TypeId) (z : Value) (size : Nat) (ht : P.underlying t = some (.slice e)) (hz : ∀ w, (zeroValue e).run P w = .ok z w) (hzs : z.cells.size = size) (hz1 : ∀ u ∈ z.cells.toList, u.oneCell' = true)
    (b n cap : Nat) (xs : List Value) (hown : w.ownsRow 0 e size (.slice (some ⟨b, 0, none⟩) n cap) n xs) (hc : n + 1 ≤ cap) (c : Nat) :
    ∃ w', (Builtin.clear_ #[t] ty #[.slice (some ⟨b, n * size, none⟩) 1 c]).run P w = .ok (.tuple #[]) w' ∧ w'.ownsRow 0 e size (.slice (some ⟨b, 0, none⟩) n cap) n xs ∧ w.grownBy w' (some b) := by
  rcases hown.2 with ⟨h', _⟩ | ⟨g, cap', cur, h', hb, hg, hnc, hcm, hcs, htake⟩
  · simp at h'
  simp only [Value.slice.injEq, Option.some.injEq, Addr.mk.injEq, and_true, true_and] at h'
  obtain ⟨rfl, rfl⟩ := h'
  have hfit : n * size + 0 + z.cells.toList.length ≤ cur.size := by
    rw [hcs, Array.length_toList, hzs]
    have : (n + 1) * size ≤ cap * size := Nat.mul_le_mul_right _ hc
    rw [Nat.add_mul] at this
    omega
  have hst := run_storeCells_at P b (n * size) e z.cells.toList 0 cur w hg hfit hz1
  have hrun : (Builtin.clear_ #[t] ty #[.slice (some ⟨b, n * size, none⟩) 1 c]).run P w = .ok (.tuple #[]) (w.setRow b (cur.toList.take (n * size) ++ z.cells.toList ++ cur.toList.drop (n * size + z.cells.toList.length)).toArray) := by
    simp only [Nat.add_zero] at hst
    simp [Builtin.clear_, run_underlying ht, hz, zeroCells_one, hst]
  refine ⟨_, hrun, ⟨hown.1, .inr ⟨b, cap, _, rfl, hb, setRow_heap w b cur _ e _ hg, hnc, hcm, ?_, ?_⟩⟩, ⟨rfl, rfl, rfl, by simp, fun k _ hk => setRow_other w b k _ (fun e => hk (by simp [e]))⟩⟩
  · simp only [List.size_toArray, List.length_append, List.length_take, List.length_drop, Array.length_toList]
    simp only [Array.length_toList] at hfit
    omega
  · have hle : n * size ≤ cur.toList.length := by rw [Array.length_toList]; omega
    rw [← htake]
    show List.take (n * size) (cur.toList.take (n * size) ++ z.cells.toList ++ cur.toList.drop (n * size + z.cells.toList.length)) = _
    rw [List.append_assoc, List.take_append_of_le_length (by rw [List.length_take]; omega), List.take_take]
    congr 1
    omega
theorem Try.zeroR (w : World) : (zeroValue 40).run Try.prog w = .ok (.agg #[.int .i64 0, .slice none 0 0]) w := by kernel_rfl

theorem flatR_take (g : List GRow) (i : Nat) : (flatR g).take (i * 2) = flatR (g.take i) := by
  induction g generalizing i with
  | nil => simp [flatR]
  | cons r g ih =>
    cases i with
    | zero => simp [flatR]
    | succ i =>
      have : (i + 1) * 2 = i * 2 + 1 + 1 := by omega
      rw [this]
      simpa [flatR] using ih i
theorem flatR_drop (g : List GRow) (i : Nat) : (flatR g).drop (i * 2) = flatR (g.drop i) := by
  induction g generalizing i with
  | nil => simp [flatR]
  | cons r g ih =>
    cases i with
    | zero => simp [flatR]
    | succ i =>
      have : (i + 1) * 2 = i * 2 + 1 + 1 := by omega
      rw [this]
      simpa [flatR] using ih i
theorem RL.oneCell {w : World} {lv : Value} {g : List GRow} (h : RL w lv g) : ∀ u ∈ flatR g, u.oneCell' = true := by
  intro u hu
  simp only [flatR, List.mem_flatMap] at hu
  obtain ⟨r, hr, hu⟩ := hu
  simp only [List.mem_cons, List.not_mem_nil, or_false] at hu
  rcases hu with rfl | rfl
  · rfl
  · obtain ⟨a, c, hc⟩ := (h.cols r hr).shape
    rw [hc]; rfl

set_option maxRecDepth 100000 in
set_option maxHeartbeats 400000 in
theorem delete_any (b cap : Nat) (g : List GRow) (i : Nat) (w : World) (h : RL w (.slice (some ⟨b, 0, none⟩) g.length cap) g) (hi : i < g.length) (hcap : g.length ≤ cap) (hlen : g.length ≤ 1000000) :
    Calls Try.prog 31 #[.slice (some ⟨b, 0, none⟩) g.length cap, .int .i64 i, .int .i64 (i + 1)] w
      fun e w' => e = .returned (.slice (some ⟨b, 0, none⟩) (g.length - 1) cap) ∧ w'.ownsRow 0 40 2 (.slice (some ⟨b, 0, none⟩) (g.length - 1) cap) (g.length - 1) (flatR (g.eraseIdx i)) ∧ Fr w w' (fun k => k = b) := by
  obtain ⟨i0, hinf, hz0, hz1, hz2⟩ := info_parts Try.infoR
  have H := Lib.hid h
  clear h
  go_enter Try.func31, Try.ntmps31
  go_wp2_with fail
  have b1 : (0 : Int) ≤ (i : Int) := by omega
  have b2 : (i : Int) ≤ (cap : Int) := by omega
  have b3 : (0 : Int) ≤ (i : Int) + 1 := by omega
  have b4 : (i : Int) + 1 ≤ (g.length : Int) := by omega
  go_still_tail 6, (by kernel_rfl)
  change wpList _ _ _ _ _ w.drew
  generalize hao : (if cap = i + 1 then (some ⟨b, 0, none⟩ : Option Addr) else some ⟨b, (i + 1) * 2, none⟩) = ao
  have hown0 := own_take (w := w.drew) H.out.own (show i ≤ g.length by omega)
  rw [flatR_take] at hown0
  have hone : ∀ u ∈ flatR (g.drop (i + 1)), u.oneCell' = true := fun u hu => H.out.oneCell u (by rw [← flatR_drop] at hu; exact List.mem_of_mem_drop hu)
  have hcell : ∀ ad, ao = some ad → ∀ j u, (flatR (g.drop (i + 1)))[j]? = some u → w.drew.cell? (ad.add j) = some u := by
    intro ad had j u hu
    have hjl := (List.getElem?_eq_some_iff.1 hu).1
    rw [length_flatR, List.length_drop] at hjl
    rw [← hao, if_neg (by omega)] at had
    obtain rfl := Option.some.inj had
    rw [Addr.add_lit, World.ownsRow.cellAt (w := w.drew) H.out.own _ (by omega)]
    rw [← flatR_drop, List.getElem?_drop] at hu
    exact hu
  have hnone : ao = none → g.length - (i + 1) = 0 ∧ cap - (i + 1) = 0 := by intro h; rw [← hao] at h; split at h <;> cases h
  have Hnone := Lib.hid hnone
  clear hnone hao
  have Hown0 := Lib.hid hown0
  have Hone := Lib.hid hone
  have Hcell := Lib.hid hcell
  clear hown0 hone hcell
  go_wp2_with (at_builtin; refine wpList_append_fits_any _ rfl _ _ _ rfl 0 40 i0 2 Try.underlying37 hinf hz1 b i cap (flatR (g.take i)) rfl Hown0.out _ (g.length - (i + 1)) (cap - (i + 1)) (flatR (g.drop (i + 1))) rfl ?c1 Hnone.out Hcell.out Hone.out ?c3 ?_)
  case c1 => rw [length_flatR, List.length_drop]
  case c3 => omega
  intro w1 hown hgr
  have e1 : i + (g.length - (i + 1)) = g.length - 1 := by omega
  have e2 : flatR (g.take i) ++ flatR (g.drop (i + 1)) = flatR (g.eraseIdx i) := by rw [← flatR_append, List.eraseIdx_eq_take_drop_succ]
  rw [e1, e2] at hown
  rw [e1]
  have Hown := Lib.hid hown
  have Hgr := Lib.hid hgr
  clear hown hgr e1 e2 Hown0 Hone Hcell
  have b5 : ¬ cap = g.length - 1 := by omega
  have b6 : g.length - (g.length - 1) = 1 := by omega
  obtain ⟨w2, hrun, hown2, hgr2⟩ := run_clear_one (P := Try.prog) w1 37 0 40 _ 2 Try.underlying37 Try.zeroR rfl (by intro u hu; simp [Value.cells] at hu; rcases hu with rfl | rfl <;> rfl) b (g.length - 1) cap _ Hown.out (by omega) (cap - (g.length - 1))
  have Hown2 := Lib.hid hown2
  have Hgr2 := Lib.hid hgr2
  clear hown2 hgr2 Hown
  go_wp2_with fail
  go_ret
  exact ⟨rfl, Hown2.out, (((Fr.refl w _).drew).grown Hgr.out fun k hk _ => by cases hk; rfl).grown Hgr2.out fun k hk _ => by cases hk; rfl⟩
end Go.Proofs.Ytljgifjokdppgaa
