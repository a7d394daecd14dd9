/-
  A gate as it lies in memory; what may be; the smallest and the greatest of numbers.
  No condition.
-/
import Derived.Test.YtplebgcgoigigaaMapIs
import Derived.Test.YtplebgcgoigigaaSl
import Derived.Test.YtplebgcgoigigaaProg
namespace Go.Proofs.Ytplebgcgoigigaa
open Go Go.RowKit

/-- What one needs. -/
structure Nd where
  proc : Int
  single : Bool
  l : Int
  u : Int
deriving DecidableEq
abbrev encN (n : Nd) : Value := .agg #[.int .i64 n.proc, .bool n.single, .int .i64 n.l, .int .i64 n.u]
structure CapD where
  n : Int
  l : Int
  u : Int
abbrev CapD.val (c : CapD) : Value := .agg #[.int .i64 c.n, .int .i64 c.l, .int .i64 c.u]
def fitsN (x : Int) : Bool := decide (0 ≤ x) && decide (x ≤ 4611686018427387904)
def Nd.may (n : Nd) : Bool := decide (0 ≤ n.proc) && (fitsN n.l && fitsN n.u)
def CapD.may (c : CapD) : Bool := fitsN c.n && (fitsN c.l && fitsN c.u)

theorem bk_at (w : World) (e : TypeId) (cs : Array Value) (b : Nat) (hb : w.heap.size = b) : Bk (w.alloc (.cells cs e)) b e cs.toList := by subst hb; exact Bk.new w e cs
theorem ints_of_bk2 {w : World} {b : Nat} {e : TypeId} {cs : List Value} {xs : List Int} {n cap : Nat} (h : Bk w b e cs) (hc : cs = xs.map (Value.int .i64)) (hn : n = xs.length) : IntsAt w (.slice (some ⟨b, 0, none⟩) n cap) xs := by
  subst hc; subst hn
  exact .inr ⟨_, cap, rfl, fun j u hu => by rw [Addr.add_lit, Nat.zero_add, h.cell, hu]⟩
def IsMin (m : Int) (xs : List Int) : Prop := m ∈ xs ∧ ∀ x ∈ xs, m ≤ x
def IsMax (m : Int) (xs : List Int) : Prop := m ∈ xs ∧ ∀ x ∈ xs, x ≤ m
theorem IsMin.snoc {m x : Int} {xs : List Int} (h : IsMin m xs) : IsMin (min m x) (xs ++ [x]) := by
  refine ⟨?_, fun y hy => ?_⟩
  · rw [Int.min_def]
    split
    · exact List.mem_append.2 (.inl h.1)
    · simp
  · rcases List.mem_append.1 hy with hy | hy
    · have := h.2 y hy; omega
    · simp at hy; subst hy; omega
theorem IsMax.snoc {m x : Int} {xs : List Int} (h : IsMax m xs) : IsMax (max m x) (xs ++ [x]) := by
  refine ⟨?_, fun y hy => ?_⟩
  · rw [Int.max_def]
    split
    · simp
    · exact List.mem_append.2 (.inl h.1)
  · rcases List.mem_append.1 hy with hy | hy
    · have := h.2 y hy; omega
    · simp at hy; subst hy; omega
theorem fits_min {a b : Int} {xs : List Int} (ha : IsMin a xs) (hb : IsMax b xs) : (decide (0 ≤ a) && decide (b ≤ 4611686018427387904)) = xs.all fitsN := by
  rw [Bool.eq_iff_iff, List.all_eq_true, Bool.and_eq_true, decide_eq_true_eq, decide_eq_true_eq]
  unfold fitsN
  constructor
  · intro h x hx
    have := ha.2 x hx
    have := hb.2 x hx
    rw [Bool.and_eq_true, decide_eq_true_eq, decide_eq_true_eq]
    omega
  · intro h
    have h1 := h a ha.1
    have h2 := h b hb.1
    rw [Bool.and_eq_true, decide_eq_true_eq, decide_eq_true_eq] at h1 h2
    omega

set_option maxRecDepth 100000 in
set_option maxHeartbeats 400000 in
theorem min_any (v : Value) (xs : List Int) (w : World) (h : IntsAt w v xs) (h0 : 0 < xs.length) (hl : xs.length ≤ 1000000) :
    Calls Try.prog 33 #[v] w fun e w' => ∃ m, e = .returned (.int .i64 m) ∧ IsMin m xs ∧ w = w' := by
  obtain ⟨b, off, cap, rfl, hc⟩ := h.form h0
  have q0 := hc 0 _ (List.getElem?_eq_getElem h0)
  rw [Nat.add_zero] at q0
  have HC := Lib.hid hc
  have hlt0 : ¬ (xs.length : Int) < 1 := by omega
  clear h hc
  go_enter Try.func33, Try.ntmps33
  go_wp2_with fail
  go_loop [3, 4] (fun vm vi => ∃ (k : Nat) (m : Int), 1 ≤ k ∧ k ≤ xs.length ∧ vi = .int .i64 k ∧ vm = .int .i64 m ∧ IsMin m (xs.take k)) (fun _ vi => xs.length - (intOf vi).toNat)
  case atStart => exact ⟨1, xs[0], by omega, by omega, rfl, rfl, by rw [List.take_one]; cases xs with | nil => simp at h0 | cons a l => simp [IsMin]⟩
  case round =>
    obtain ⟨k, m, hk1, hk, rfl, rfl, hm⟩ := hrel
    have Hm := Lib.hid hm
    clear hm
    by_cases hlt : k < xs.length
    · have q1 := HC.out k _ (List.getElem?_eq_getElem hlt)
      have HT := Lib.hid (List.take_succ_eq_append_getElem hlt)
      generalize xs[k] = x at *
      clear q0
      go_wp2_with fail
      go_round
      case rel => exact ⟨k + 1, min m x, by omega, by omega, by go_num, congrArg (Value.int .i64) (by rw [Int.min_def]; split <;> split <;> omega), by rw [HT.out]; exact Hm.out.snoc⟩
      case measure => simp [intOf]; omega
    · obtain rfl : k = xs.length := by omega
      go_wp2_with fail
      go_ret
      exact ⟨m, rfl, by have := Hm.out; rwa [List.take_length] at this, rfl⟩
set_option maxRecDepth 100000 in
set_option maxHeartbeats 400000 in
theorem max_any (v : Value) (xs : List Int) (w : World) (h : IntsAt w v xs) (h0 : 0 < xs.length) (hl : xs.length ≤ 1000000) :
    Calls Try.prog 34 #[v] w fun e w' => ∃ m, e = .returned (.int .i64 m) ∧ IsMax m xs ∧ w = w' := by
  obtain ⟨b, off, cap, rfl, hc⟩ := h.form h0
  have q0 := hc 0 _ (List.getElem?_eq_getElem h0)
  rw [Nat.add_zero] at q0
  have HC := Lib.hid hc
  have hlt0 : ¬ (xs.length : Int) < 1 := by omega
  clear h hc
  go_enter Try.func34, Try.ntmps34
  go_wp2_with fail
  go_loop [3, 4] (fun vm vi => ∃ (k : Nat) (m : Int), 1 ≤ k ∧ k ≤ xs.length ∧ vi = .int .i64 k ∧ vm = .int .i64 m ∧ IsMax m (xs.take k)) (fun _ vi => xs.length - (intOf vi).toNat)
  case atStart => exact ⟨1, xs[0], by omega, by omega, rfl, rfl, by rw [List.take_one]; cases xs with | nil => simp at h0 | cons a l => simp [IsMax]⟩
  case round =>
    obtain ⟨k, m, hk1, hk, rfl, rfl, hm⟩ := hrel
    have Hm := Lib.hid hm
    clear hm
    by_cases hlt : k < xs.length
    · have q1 := HC.out k _ (List.getElem?_eq_getElem hlt)
      have HT := Lib.hid (List.take_succ_eq_append_getElem hlt)
      generalize xs[k] = x at *
      clear q0
      go_wp2_with fail
      go_round
      case rel => exact ⟨k + 1, max m x, by omega, by omega, by go_num, congrArg (Value.int .i64) (by rw [Int.max_def]; split <;> split <;> omega), by rw [HT.out]; exact Hm.out.snoc⟩
      case measure => simp [intOf]; omega
    · obtain rfl : k = xs.length := by omega
      go_wp2_with fail
      go_ret
      exact ⟨m, rfl, by have := Hm.out; rwa [List.take_length] at this, rfl⟩
set_option maxRecDepth 100000 in
set_option maxHeartbeats 400000 in
theorem fits_any (v : Value) (xs : List Int) (w : World) (h : IntsAt w v xs) (h0 : 0 < xs.length) (hl : xs.length ≤ 1000000) :
    Calls Try.prog 19 #[v] w fun e w' => e = .returned (.bool (xs.all fitsN)) ∧ w = w' := by
  obtain ⟨a, cap, rfl⟩ := h.shape
  have H := Lib.hid h
  clear h
  go_enter Try.func19, Try.ntmps19
  go_wp2_with fail
  refine (min_any _ xs _ H.out h0 hl).mono ?_
  rintro e w' ⟨m, rfl, hm, rfl⟩
  have Hm := Lib.hid hm
  clear hm
  by_cases h1 : 0 ≤ m
  · go_wp2_with fail
    refine (max_any _ xs _ H.out h0 hl).mono ?_
    rintro e w' ⟨m2, rfl, hm2, rfl⟩
    have HF := Lib.hid (fits_min Hm.out hm2)
    clear hm2
    go_wp2_with fail
    go_ret
    refine ⟨?_, rfl⟩
    rw [← HF.out, decide_eq_true h1]
    rfl
  · have h2 : ¬ (m ≥ 0) := h1
    go_wp2_with fail
    go_ret
    refine ⟨?_, rfl⟩
    have h3 : xs.all fitsN = false := by
      rw [← Bool.not_eq_true, List.all_eq_true]
      intro h4
      have := h4 m Hm.out.1
      unfold fitsN at this
      rw [Bool.and_eq_true, decide_eq_true_eq] at this
      omega
    rw [h3]; rfl
end Go.Proofs.Ytplebgcgoigigaa
