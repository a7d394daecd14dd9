/-
  How the tables of package rows lie in memory.
  No condition.
-/
import Derived.Test.YtjpenaodkfljhaaRwLeaf
import Derived.IntWalk
namespace Go.Proofs.Ytjpenaodkfljhaa
open Go Go.RowKit

/-- A row: its key, the slice of its values, these values. -/
structure GRow where
  key : Int
  cv : Value
  cols : List Int
/-- A table: its block, how many columns, the slice of its rows, these rows. -/
structure GTab where
  tb : Nat
  n : Nat
  lv : Value
  rows : List GRow

def flatR (g : List GRow) : List Value := g.flatMap fun r => [.int .i64 r.key, r.cv]
theorem length_flatR (g : List GRow) : (flatR g).length = g.length * 2 := by
  induction g with
  | nil => rfl
  | cons r g ih => simp only [flatR, List.flatMap_cons, List.length_append, List.length_cons, List.length_nil] at ih ⊢; rw [ih]; omega
theorem flatR_append (g h : List GRow) : flatR (g ++ h) = flatR g ++ flatR h := by simp [flatR]
theorem flatR_key (g : List GRow) (i : Nat) : (flatR g)[i * 2]? = g[i]?.map fun r => .int .i64 r.key := by
  induction g generalizing i with
  | nil => simp [flatR]
  | cons r g ih =>
    cases i with
    | zero => simp [flatR]
    | succ i =>
      have : (i + 1) * 2 = i * 2 + 1 + 1 := by omega
      rw [this]
      simpa [flatR] using ih i
theorem flatR_cv (g : List GRow) (i : Nat) : (flatR g)[i * 2 + 1]? = g[i]?.map fun r => r.cv := by
  induction g generalizing i with
  | nil => simp [flatR]
  | cons r g ih =>
    cases i with
    | zero => simp [flatR]
    | succ i =>
      have : (i + 1) * 2 + 1 = i * 2 + 1 + 1 + 1 := by omega
      rw [this]
      simpa [flatR] using ih i

/-- A slice of rows that is owned: the rows' cells, and each row's values. -/
structure RL (w : World) (lv : Value) (g : List GRow) : Prop where
  own : w.ownsRow 0 102 2 lv g.length (flatR g)
  cols : ∀ r ∈ g, OwnInts w 2 r.cv r.cols
def rlBlocks (lv : Value) (g : List GRow) : List Nat := lv.ownBlock.toList ++ g.flatMap fun r => r.cv.ownBlock.toList
theorem RL.fr {w w' : World} {S : Nat → Prop} {lv : Value} {g : List GRow} (h : RL w lv g) (hf : Fr w w' S) (hd : ∀ k ∈ rlBlocks lv g, ¬ S k) : RL w' lv g := by
  refine ⟨hf.own h.own fun k hk => hd k (by simp [rlBlocks, hk]), fun r hr => (h.cols r hr).fr hf fun k hk => hd k ?_⟩
  simp only [rlBlocks, List.mem_append, List.mem_flatMap]
  exact .inr ⟨r, hr, by simp [hk]⟩
theorem RL.lt {w : World} {lv : Value} {g : List GRow} (h : RL w lv g) : ∀ k ∈ rlBlocks lv g, k < w.heap.size := by
  intro k hk
  simp only [rlBlocks, List.mem_append, List.mem_flatMap, Option.mem_toList] at hk
  rcases hk with hk | ⟨r, hr, hk⟩
  · exact (World.ownsRow.lt h.own k hk).2
  · exact (h.cols r hr).lt k hk
theorem RL.shape {w : World} {lv : Value} {g : List GRow} (h : RL w lv g) : (lv = .slice none 0 0 ∧ g = []) ∨ ∃ b cap, lv = .slice (some ⟨b, 0, none⟩) g.length cap ∧ g.length ≤ cap := by
  rcases h.own.2 with ⟨rfl, hn⟩ | ⟨b, cap, cur, rfl, _, _, hc, _⟩
  · exact .inl ⟨rfl, List.eq_nil_of_length_eq_zero hn⟩
  · exact .inr ⟨b, cap, rfl, hc⟩
theorem RL.shape2 {w : World} {lv : Value} {g : List GRow} (h : RL w lv g) : ∃ a cap, lv = .slice a g.length cap := by
  rcases h.shape with ⟨rfl, rfl⟩ | ⟨b, cap, rfl, _⟩
  · exact ⟨none, 0, rfl⟩
  · exact ⟨_, cap, rfl⟩
theorem RL.len {w : World} {b : Nat} {cap : Nat} {lv : Value} {g : List GRow} (h : RL w lv g) (_hl : lv = .slice (some ⟨b, 0, none⟩) g.length cap) : g.length ≤ 9223372036854775807 := by
  rcases h.own.2 with ⟨rfl, hn⟩ | ⟨b, cap, cur, rfl, _, _, hc, hm, _⟩
  · omega
  · unfold maxLen at hm; omega
theorem RL.key {w : World} {b cap : Nat} {g : List GRow} (h : RL w (.slice (some ⟨b, 0, none⟩) g.length cap) g) (i : Nat) (r : GRow) (hr : g[i]? = some r) : w.cell? ⟨b, i * 2, none⟩ = some (.int .i64 r.key) := by
  have hi : i < g.length := (List.getElem?_eq_some_iff.1 hr).1
  rw [World.ownsRow.cellAt h.own (i * 2) (by omega), flatR_key, hr]
  rfl
theorem RL.cv {w : World} {b cap : Nat} {g : List GRow} (h : RL w (.slice (some ⟨b, 0, none⟩) g.length cap) g) (i : Nat) (r : GRow) (hr : g[i]? = some r) : w.cell? ⟨b, i * 2 + 1, none⟩ = some r.cv := by
  have hi : i < g.length := (List.getElem?_eq_some_iff.1 hr).1
  rw [World.ownsRow.cellAt h.own (i * 2 + 1) (by omega), flatR_cv, hr]
  rfl

/-- Where a key's row is, or would be. -/
def lbK (g : List GRow) (k : Int) : Nat := (g.takeWhile fun r => r.key < k).length
def Sorted (g : List GRow) : Prop := g.Pairwise fun a b => a.key < b.key

theorem Sorted.lt {g : List GRow} (hs : Sorted g) {s t : Nat} {a b : GRow} (h1 : g[s]? = some a) (h2 : g[t]? = some b) (h : s < t) : a.key < b.key := by
  obtain ⟨i1, e1⟩ := List.getElem?_eq_some_iff.1 h1
  obtain ⟨i2, e2⟩ := List.getElem?_eq_some_iff.1 h2
  have := List.pairwise_iff_getElem.1 hs s t i1 i2 h
  rw [e1, e2] at this
  exact this
theorem cmpZ_lt {a b : Int} : cmpZ a b < 0 ↔ a < b := by
  unfold cmpZ; by_cases h1 : a < b
  · simp [h1]
  · by_cases h2 : b < a <;> simp [h1, h2]
theorem cmpZ_eq {a b : Int} : cmpZ a b = 0 ↔ a = b := by
  unfold cmpZ; by_cases h1 : a < b
  · simp [h1]; omega
  · by_cases h2 : b < a <;> simp [h1, h2] <;> omega
theorem lbK_eq {g : List GRow} {k : Int} : ∀ {i : Nat}, i ≤ g.length → (∀ t r, t < i → g[t]? = some r → r.key < k) → (∀ t r, i ≤ t → g[t]? = some r → k ≤ r.key) → lbK g k = i := by
  induction g with
  | nil => intro i h _ _; simp at h; simp [lbK, h]
  | cons x g ih =>
    intro i h hlo hhi
    cases i with
    | zero =>
      have := hhi 0 x (Nat.le_refl _) rfl
      simp [lbK, show ¬ x.key < k by omega]
    | succ i =>
      have h0 := hlo 0 x (by omega) rfl
      have := ih (i := i) (by simpa using h) (fun t r ht hr => hlo (t + 1) r (by omega) (by simpa using hr)) (fun t r ht hr => hhi (t + 1) r (by omega) (by simpa using hr))
      simp only [lbK, List.takeWhile_cons, h0, decide_true, if_true, List.length_cons]
      simp only [lbK] at this
      omega
theorem found_at {g : List GRow} (hs : Sorted g) {k : Int} {i : Nat} {r : GRow} (hr : g[i]? = some r) (hlo : ∀ t r, t < i → g[t]? = some r → r.key < k) (hhi : ∀ t r, i ≤ t → g[t]? = some r → k ≤ r.key) :
    (decide (∃ r ∈ g, r.key = k)) = (cmpZ r.key k == 0) := by
  rw [Bool.eq_iff_iff, decide_eq_true_iff, beq_iff_eq, cmpZ_eq]
  constructor
  · rintro ⟨x, hx, hk⟩
    obtain ⟨t, ht⟩ := List.getElem?_of_mem hx
    by_cases h1 : t < i
    · have := hlo t x h1 ht; omega
    · by_cases h2 : t = i
      · subst h2; rw [hr] at ht; cases ht; exact hk
      · have := hs.lt hr ht (by omega); have := hhi i r (Nat.le_refl _) hr; omega
  · intro h; exact ⟨r, List.mem_of_getElem? hr, h⟩
theorem found_end {g : List GRow} {k : Int} (hlo : ∀ t r, t < g.length → g[t]? = some r → r.key < k) : (decide (∃ r ∈ g, r.key = k)) = false := by
  rw [decide_eq_false_iff_not]
  rintro ⟨x, hx, hk⟩
  obtain ⟨t, ht⟩ := List.getElem?_of_mem hx
  have := hlo t x (List.getElem?_eq_some_iff.1 ht).1 ht
  omega

set_option maxHeartbeats 400000 in
theorem find1_any (a b : Int) (v : Value) (n c : Nat) (ad : Option Addr) (hv : v = .slice ad n c) (w : World) :
    Calls Try.prog 92 #[.agg #[.int .i64 a, v], .int .i64 b] w fun e w' => e = .returned (.int .i64 (cmpZ a b)) ∧ Fr w w' Nil := by
  subst hv
  go_enter Try.func92, Try.ntmps92
  go_wp2_with (go_at_call 93; refine (cmp_any _ _ _).mono ?_; rintro e w' ⟨rfl, rfl⟩)
  go_ret
  exact ⟨rfl, (Fr.refl _ _).alloc _⟩

def Found (g : List GRow) (k : Int) (w : World) (e : Ending) (w' : World) : Prop := e = .returned (.tuple #[.int .i64 (lbK g k), .bool (decide (∃ r ∈ g, r.key = k))]) ∧ Fr w w' Nil

set_option maxRecDepth 100000 in
set_option maxHeartbeats 400000 in
theorem bsearch_any (lv : Value) (g : List GRow) (k : Int) (w : World) (h : RL w lv g) (hs : Sorted g) (hlen : g.length ≤ 1000000) :
    Calls Try.prog 91 #[lv, .int .i64 k, .func (.func 92) #[] #[]] w (Found g k w) := by
  rcases h.shape with ⟨rfl, rfl⟩ | ⟨b, cap, rfl, hcap⟩
  · go_enter Try.func91, Try.ntmps91
    go_wp2_with fail
    refine wp_loop_once ?_
    go_wp2_with fail
    go_ret2
    exact ⟨rfl, Fr.refl _ _⟩
  have H := Lib.hid h
  clear h
  have Hs := Lib.hid hs
  clear hs
  go_enter Try.func91, Try.ntmps91
  go_wp2_with fail
  go_loopw [9, 10] (fun vi vj wr => ∃ i j : Nat, i ≤ j ∧ j ≤ g.length ∧ vi = .int .i64 i ∧ vj = .int .i64 j ∧ Fr w wr Nil ∧ (∀ t r, t < i → g[t]? = some r → r.key < k) ∧ (∀ t r, j ≤ t → g[t]? = some r → k ≤ r.key))
    (fun vi vj _ => (intOf vj - intOf vi).toNat)
  case atStart => exact ⟨0, g.length, by omega, by omega, rfl, rfl, Fr.refl _ _, by omega, fun t r h1 h2 => by have := (List.getElem?_eq_some_iff.1 h2).1; omega⟩
  case round =>
    obtain ⟨i, j, hij, hj, rfl, rfl, hfr, hlo, hhi⟩ := hrel
    have Hfr := Lib.hid hfr
    have Hlo := Lib.hid hlo
    have Hhi := Lib.hid hhi
    clear hfr hlo hhi
    have HR : Hid (RL wr (Value.slice (some { block := b, off := 0 }) g.length cap) g) := H.out.fr Hfr.out (fun _ _ h => h)
    by_cases hlt : i < j
    · have hu : IntKind.u64.wrap ((i : Int) + j) = (i : Int) + j := IntWalk.u64_in _ (by omega)
      have hm : (i + j) / 2 < g.length := by omega
      have hr : g[(i + j) / 2]? = some g[(i + j) / 2] := List.getElem?_eq_getElem hm
      generalize g[(i + j) / 2] = r at hr
      have q0 := RL.key HR.out _ r hr
      have q1 := RL.cv HR.out _ r hr
      obtain ⟨a', c', hcv⟩ := (HR.out.cols r (List.mem_of_getElem? hr)).shape
      rw [hcv] at q1
      have Hr := Lib.hid hr
      clear hr hcv
      go_wp2_with (go_at_call 92; refine (find1_any _ _ _ _ _ _ rfl _).mono ?_; rintro e w' ⟨rfl, hfr1⟩)
      · have hc : cmpZ r.key k < 0 := by assumption
        refine ⟨⟨(i + j) / 2 + 1, j, by omega, hj, by go_num, rfl, Hfr.out.trans0 hfr1, ?_, Hhi.out⟩, by simp [intOf]; omega⟩
        intro t r' ht hr'
        have hk := cmpZ_lt.1 hc
        by_cases ht2 : t = (i + j) / 2
        · subst ht2; rw [Hr.out] at hr'; cases hr'; exact hk
        · have := Hs.out.lt hr' Hr.out (by omega); omega
      · have hc : 0 ≤ cmpZ r.key k := by assumption
        refine ⟨⟨i, (i + j) / 2, by omega, by omega, rfl, by go_num, Hfr.out.trans0 hfr1, Hlo.out, ?_⟩, by simp [intOf]; omega⟩
        intro t r' ht hr'
        have hk : ¬ r.key < k := fun h => by have := cmpZ_lt.2 h; omega
        by_cases ht2 : t = (i + j) / 2
        · subst ht2; rw [Hr.out] at hr'; cases hr'; omega
        · have := Hs.out.lt Hr.out hr' (by omega); omega
    · by_cases hlt2 : i < g.length
      · have hr : g[i]? = some g[i] := List.getElem?_eq_getElem hlt2
        generalize g[i] = r at hr
        have q0 := RL.key HR.out _ r hr
        have q1 := RL.cv HR.out _ r hr
        obtain ⟨a', c', hcv⟩ := (HR.out.cols r (List.mem_of_getElem? hr)).shape
        rw [hcv] at q1
        have Hr := Lib.hid hr
        clear hr hcv
        go_wp2_with (go_at_call 92; refine (find1_any _ _ _ _ _ _ rfl _).mono ?_; rintro e w' ⟨rfl, hfr1⟩)
        go_ret2
        obtain rfl : i = j := by omega
        exact ⟨by rw [found_at Hs.out Hr.out Hlo.out Hhi.out, lbK_eq hj Hlo.out Hhi.out]; rfl, Hfr.out.trans0 hfr1⟩
      · go_wp2_with fail
        go_ret2
        obtain rfl : i = j := by omega
        obtain rfl : i = g.length := by omega
        exact ⟨by rw [found_end Hlo.out, lbK_eq hj Hlo.out Hhi.out]; rfl, Hfr.out⟩
end Go.Proofs.Ytjpenaodkfljhaa
