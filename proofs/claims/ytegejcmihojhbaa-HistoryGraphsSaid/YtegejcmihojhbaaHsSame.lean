/-
  Walks of same and few; the rows of bytes that come in.
  No condition but sizes.
-/
import Derived.Test.YtegejcmihojhbaaHsLeaf
import Derived.Deep.QuietTactic
import Derived.BigQuiet
namespace Go.Proofs.Ytegejcmihojhbaa
open Go Go.RowKit

def sameB (xs ys : List Int) : Bool := decide (xs = ys)
def SameTo (xs ys : List Int) (k : Nat) : Prop := ∀ j, j < k → xs.getD j 0 = ys.getD j 0
theorem sameB_true {xs ys : List Int} (hl : xs.length = ys.length) (h : SameTo xs ys xs.length) : sameB xs ys = true := by
  unfold sameB
  rw [decide_eq_true_eq]
  apply List.ext_getElem hl
  intro i h1 h2
  have := h i h1
  simpa [List.getD_eq_getElem?_getD, h1, h2] using this
theorem sameB_false {xs ys : List Int} (k : Nat) (h : xs.getD k 0 ≠ ys.getD k 0) : sameB xs ys = false := by
  unfold sameB
  rw [decide_eq_false_iff_not]
  intro e; subst e; exact h rfl
theorem sameB_len {xs ys : List Int} (h : xs.length ≠ ys.length) : sameB xs ys = false := by
  unfold sameB
  rw [decide_eq_false_iff_not]
  intro e; subst e; exact h rfl

set_option maxRecDepth 100000 in
set_option maxHeartbeats 1000000 in
theorem same_any (av bv : Value) (xs ys : List Int) (w : World) (ha : IntsAt w av xs) (hb : IntsAt w bv ys) (hl : xs.length ≤ 1000000) :
    Calls Try.prog 13 #[av, bv] w fun e w' => e = .returned (.bool (sameB xs ys)) ∧ Fr w w' Nil := by
  obtain ⟨aa, acap, rfl⟩ := ha.shape
  obtain ⟨ba, bcap, rfl⟩ := hb.shape
  have HA := Lib.hid ha
  have HB := Lib.hid hb
  clear ha hb
  by_cases hlen : xs.length = ys.length
  rotate_left
  · have hne : ((xs.length : Int) != (ys.length : Int)) = true := by rw [bne_iff_ne]; omega
    have HR := Lib.hid (sameB_len hlen)
    clear hlen
    go_enter Try.func13, Try.ntmps13
    go_wp2_with fail
    go_ret
    exact ⟨by rw [HR.out]; rfl, Fr.refl _ _⟩
  · have hne : ((xs.length : Int) != (ys.length : Int)) = false := by rw [bne_eq_false_iff_eq]; omega
    have HL := Lib.hid hlen
    have hl2 : ys.length ≤ 1000000 := by omega
    have hl3 : (xs.length : Int) ≤ (ys.length : Int) := by omega
    clear hlen
    go_enter Try.func13, Try.ntmps13
    go_wp2_with fail
    go_loopw [5] (fun vi wr => ∃ k : Nat, k ≤ xs.length ∧ vi = .int .i64 k ∧ SameTo xs ys k ∧ Fr w wr Nil) (fun vi _ => xs.length - (intOf vi).toNat)
    case atStart => exact ⟨0, by omega, rfl, fun p hp => by omega, Fr.refl _ _⟩
    case round =>
      obtain ⟨k, hk, rfl, hst, hf⟩ := hrel
      have Hst := Lib.hid hst
      have Hf := Lib.hid hf
      clear hst hf
      by_cases hlt : k < xs.length
      · obtain ⟨ab, aoff, acap2, hav, hac⟩ := (HA.out.fr Hf.out fun _ _ h => h).form (by omega)
        simp only [Value.slice.injEq, true_and] at hav
        obtain ⟨rfl, rfl⟩ := hav
        have hlt2 : k < ys.length := by omega
        obtain ⟨bb, boff, bcap2, hbv, hbc⟩ := (HB.out.fr Hf.out fun _ _ h => h).form (by omega)
        simp only [Value.slice.injEq, true_and] at hbv
        obtain ⟨rfl, rfl⟩ := hbv
        have q0 := hac k _ (List.getElem?_eq_getElem hlt)
        have q1 := hbc k _ (List.getElem?_eq_getElem hlt2)
        have HX : Hid (xs.getD k 0 = xs[k]) := by
          have : xs.getD k 0 = xs[k] := by simp [List.getD_eq_getElem?_getD, hlt]
          exact this
        have HY : Hid (ys.getD k 0 = ys[k]) := by
          have : ys.getD k 0 = ys[k] := by simp [List.getD_eq_getElem?_getD, hlt2]
          exact this
        have hi1 : (k : Int) < (xs.length : Int) := by omega
        have hi2 : (k : Int) < (ys.length : Int) := by omega
        generalize xs[k] = x at *
        generalize ys[k] = y at *
        clear hac hbc
        by_cases he : x = y
        · have h1 : (x != y) = false := by rw [bne_eq_false_iff_eq]; exact he
          have HE : Hid (xs.getD k 0 = ys.getD k 0) := by
            have : xs.getD k 0 = ys.getD k 0 := by rw [HX.out, HY.out, he]
            exact this
          clear he
          go_wp2_with fail
          go_quiet (fail)
          go_wp2_with fail
          go_roundw
          case rel =>
            refine ⟨k + 1, by omega, by go_num, fun p hp => ?_, Hf.out.drewN _⟩
            by_cases e : p = k
            · subst e; exact HE.out
            · exact Hst.out p (by omega)
          case measure => simp [intOf]; omega
        · have h1 : (x != y) = true := by rw [bne_iff_ne]; exact he
          have HR : Hid (sameB xs ys = false) := by
            refine sameB_false k ?_
            rw [HX.out, HY.out]; exact he
          clear he
          go_wp2_with fail
          go_quiet (fail)
          go_wp2_with fail
          go_ret
          exact ⟨by rw [HR.out]; rfl, Hf.out.drewN _⟩
      · obtain rfl : k = xs.length := by omega
        have HR := Lib.hid (sameB_true HL.out Hst.out)
        go_wp2_with fail
        go_ret
        exact ⟨by rw [HR.out]; rfl, Hf.out⟩

/-- Rows of bytes. -/
def BytesAt (w : World) (v : Value) (xs : List Int) : Prop := SlAt w 1 v xs.length (xs.map (Value.int .u8))
def RowsU8At (w : World) (v : Value) (L : List (List Int)) : Prop :=
  L.length ≤ 9223372036854775807 ∧ ∃ vs : List Value, SlAt w 1 v L.length vs ∧ ∀ (i : Nat) (xs : List Int), L[i]? = some xs → ∃ u, vs[i]? = some u ∧ BytesAt w u xs ∧ xs.length ≤ 9223372036854775807 ∧ ∀ x ∈ xs, 0 ≤ x ∧ x < 256
theorem RowsU8At.form {w : World} {v : Value} {L : List (List Int)} (h : RowsU8At w v L) (hn : 0 < L.length) : ∃ b off cap, v = .slice (some ⟨b, off, none⟩) L.length cap ∧
    ∀ (i : Nat) (xs : List Int), L[i]? = some xs → ∃ u, w.cell? ⟨b, off + i, none⟩ = some u ∧ BytesAt w u xs ∧ xs.length ≤ 9223372036854775807 ∧ ∀ x ∈ xs, 0 ≤ x ∧ x < 256 := by
  obtain ⟨_, vs, h1, h2⟩ := h
  obtain ⟨b, off, cap, rfl, hc⟩ := h1.form (by decide) hn
  refine ⟨b, off, cap, rfl, fun i xs hi => ?_⟩
  obtain ⟨u, hu, hx⟩ := h2 i xs hi
  exact ⟨u, hc i u hu, hx⟩
theorem RowsU8At.shape {w : World} {v : Value} {L : List (List Int)} (h : RowsU8At w v L) : ∃ a cap, v = .slice a L.length cap := by
  obtain ⟨_, vs, h1, _⟩ := h
  exact h1.shape
theorem RowsU8At.fr0 {w w' : World} {v : Value} {L : List (List Int)} (h : RowsU8At w v L) (hf : Fr w w' Nil) : RowsU8At w' v L := by
  obtain ⟨hl, vs, h1, h2⟩ := h
  refine ⟨hl, vs, h1.fr0 hf, fun i xs hi => ?_⟩
  obtain ⟨u, hu, hx, hr⟩ := h2 i xs hi
  exact ⟨u, hu, SlAt.fr0 hx hf, hr⟩
theorem BytesAt.form {w : World} {v : Value} {xs : List Int} (h : BytesAt w v xs) (hn : 0 < xs.length) : ∃ b off cap, v = .slice (some ⟨b, off, none⟩) xs.length cap ∧ ∀ (j : Nat) (n : Int), xs[j]? = some n → w.cell? ⟨b, off + j, none⟩ = some (.int .u8 n) := by
  obtain ⟨b, off, cap, rfl, hc⟩ := SlAt.form h (by decide) hn
  exact ⟨b, off, cap, rfl, fun j n hj => hc j _ (by simp [hj])⟩

def fewFrom (n : Nat) : List (List Int) → Bool
  | [] => true
  | xs :: r => if 200 < n + xs.length then false else fewFrom (n + xs.length) r
def fewB (L : List (List Int)) : Bool := decide (L.length ≤ 20) && fewFrom 0 L
theorem fewFrom_drop {l : List (List Int)} {k n : Nat} {c : List Int} (h : l[k]? = some c) : fewFrom n (l.drop k) = if 200 < n + c.length then false else fewFrom (n + c.length) (l.drop (k + 1)) := by
  obtain ⟨hk, rfl⟩ := List.getElem?_eq_some_iff.1 h
  rw [List.drop_eq_getElem_cons hk]
  rfl
theorem fewFrom_mem {l : List (List Int)} : ∀ {n : Nat}, fewFrom n l = true → ∀ c ∈ l, c.length ≤ 200 := by
  induction l with
  | nil => intro n _ c hc; cases hc
  | cons x l ih =>
    intro n h c hc
    unfold fewFrom at h
    split at h
    · cases h
    · rcases List.mem_cons.1 hc with rfl | hc
      · omega
      · exact ih h c hc
theorem fewB_small {l : List (List Int)} (h : fewB l = true) : l.length ≤ 20 ∧ ∀ c ∈ l, c.length ≤ 200 := by
  unfold fewB at h
  rw [Bool.and_eq_true, decide_eq_true_eq] at h
  exact ⟨h.1, fewFrom_mem h.2⟩

set_option maxRecDepth 100000 in
set_option maxHeartbeats 400000 in
theorem few_any (v : Value) (L : List (List Int)) (w : World) (h : RowsU8At w v L) :
    Calls Try.prog 9 #[v] w fun e w' => e = .returned (.bool (fewB L)) ∧ w = w' := by
  obtain ⟨a, cap, rfl⟩ := h.shape
  have hmax := h.1
  have H := Lib.hid h
  clear h
  by_cases h20 : 20 < L.length
  · have HL : Hid (fewB L = false) := by
      have : fewB L = false := by unfold fewB; rw [decide_eq_false (by omega)]; rfl
      exact this
    go_enter Try.func9, Try.ntmps9
    go_wp2_with fail
    go_ret
    exact ⟨by rw [HL.out]; rfl, rfl⟩
  · have HL : Hid (fewB L = fewFrom 0 L) := by
      have : fewB L = fewFrom 0 L := by unfold fewB; rw [decide_eq_true (by omega)]; rfl
      exact this
    have h9 : decide ((20 : Int) < (L.length : Int)) = false := by rw [decide_eq_false_iff_not]; omega
    go_enter Try.func9, Try.ntmps9
    go_wp2_with fail
    go_loop [3, 4] (fun vn vi => ∃ k n : Nat, k ≤ L.length ∧ n ≤ 200 ∧ vi = .int .i64 k ∧ vn = .int .i64 n ∧ fewFrom 0 L = fewFrom n (L.drop k)) (fun _ vi => L.length - (intOf vi).toNat)
    case atStart => exact ⟨0, 0, by omega, by omega, rfl, rfl, by rw [List.drop_zero]⟩
    case round =>
      obtain ⟨k, n, hk, hn, rfl, rfl, hlf⟩ := hrel
      have Hlf := Lib.hid hlf
      clear hlf
      by_cases hlt : k < L.length
      · obtain ⟨b, off, cap2, hv, hc⟩ := H.out.form (by omega)
        simp only [Value.slice.injEq, true_and] at hv
        obtain ⟨rfl, rfl⟩ := hv
        have hg := List.getElem?_eq_getElem hlt
        generalize L[k] = c at hg
        obtain ⟨u, q, hu, hmx, _⟩ := hc k c hg
        obtain ⟨ac, cc, rfl⟩ := SlAt.shape hu
        have HD := Lib.hid (fewFrom_drop (n := n) hg)
        have hlt2 : (k : Int) < (L.length : Int) := by omega
        clear hc hg hu
        by_cases hb : 200 < n + c.length
        · have HF : Hid (fewFrom 0 L = false) := by
            have := Hlf.out
            rw [HD.out, if_pos hb] at this
            exact this
          have hb2 : (200 : Int) - n < c.length := by omega
          go_wp2_with fail
          go_ret
          exact ⟨by rw [HL.out, HF.out]; rfl, rfl⟩
        · have HF : Hid (fewFrom 0 L = fewFrom (n + c.length) (L.drop (k + 1))) := by
            have := Hlf.out
            rw [HD.out, if_neg hb] at this
            exact this
          have hb2 : ¬ (200 : Int) - n < c.length := by omega
          go_wp2_with fail
          go_round
          case rel => exact ⟨k + 1, n + c.length, by omega, by omega, by go_num, by go_num, HF.out⟩
          case measure => simp [intOf]; omega
      · have HF : Hid (fewFrom 0 L = true) := by
          have := Hlf.out
          rw [List.drop_of_length_le (by omega)] at this
          exact this
        go_wp2_with fail
        go_ret
        exact ⟨by rw [HL.out, HF.out]; rfl, rfl⟩
end Go.Proofs.Ytegejcmihojhbaa
