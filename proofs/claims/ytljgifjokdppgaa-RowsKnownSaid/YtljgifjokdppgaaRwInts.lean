/-
  Walk of sameInts.
  No condition but sizes.
-/
import Derived.Test.YtljgifjokdppgaaRwLeaf
import Derived.Deep.QuietTactic
import Derived.BigQuiet
namespace Go.Proofs.Ytljgifjokdppgaa
open Go Go.RowKit

theorem take_succ_eq {xs ys : List Int} {k : Nat} {x y : Int} (hx : xs[k]? = some x) (hy : ys[k]? = some y) (h : xs.take k = ys.take k) (hxy : x = y) : xs.take (k + 1) = ys.take (k + 1) := by
  rw [List.take_add_one, List.take_add_one, hx, hy, h, hxy]

set_option maxRecDepth 100000 in
set_option maxHeartbeats 400000 in
theorem sameInts_any (u v : Value) (xs ys : List Int) (w : World) (hu : IntsAt w u xs) (hv : IntsAt w v ys) (hx : xs.length ≤ 1000000) (hy : ys.length ≤ 1000000) :
    Calls Try.prog 19 #[u, v] w fun e w' => e = .returned (.bool (decide (xs = ys))) ∧ Fr w w' Nil := by
  obtain ⟨a, ca, rfl⟩ := hu.shape
  obtain ⟨b, cb, rfl⟩ := hv.shape
  have Hu := Lib.hid hu
  have Hv := Lib.hid hv
  clear hu hv
  by_cases hl : xs.length = ys.length
  · have hl2 : ((xs.length : Int) != (ys.length : Int)) = false := by rw [bne_eq_false_iff_eq]; omega
    have Hl := Lib.hid hl
    clear hl
    go_enter Try.func19, Try.ntmps19
    go_wp2_with fail
    go_loopw [5] (fun vi wr => ∃ k : Nat, k ≤ xs.length ∧ vi = .int .i64 k ∧ xs.take k = ys.take k ∧ Fr w wr Nil) (fun vi _ => xs.length - (intOf vi).toNat)
    case atStart => exact ⟨0, by omega, rfl, by simp, Fr.refl _ _⟩
    case round =>
      obtain ⟨k, hk, rfl, htk, hf⟩ := hrel
      have Htk := Lib.hid htk
      have Hf := Lib.hid hf
      clear htk hf
      by_cases hlt : k < xs.length
      · have hlt' : k < ys.length := by have := Hl.out; omega
        obtain ⟨b1, o1, c1, hv1, hc1⟩ := Hu.out.form (by omega)
        obtain ⟨b2, o2, c2, hv2, hc2⟩ := Hv.out.form (by omega)
        simp only [Value.slice.injEq, true_and] at hv1 hv2
        obtain ⟨rfl, rfl⟩ := hv1
        obtain ⟨rfl, rfl⟩ := hv2
        have hg1 := List.getElem?_eq_getElem hlt
        have hg2 := List.getElem?_eq_getElem hlt'
        generalize xs[k] = x at hg1
        generalize ys[k] = y at hg2
        have p1 := Hf.out.cell (hc1 k x hg1) fun h => h
        have p2 := Hf.out.cell (hc2 k y hg2) fun h => h
        have i1 : (k : Int) < (xs.length : Int) := by omega
        have i2 : (k : Int) < (ys.length : Int) := by omega
        have Hg1 := Lib.hid hg1
        have Hg2 := Lib.hid hg2
        clear hc1 hc2 hg1 hg2
        by_cases hxy : x = y
        · have h1 : (x != y) = false := by rw [bne_eq_false_iff_eq]; exact hxy
          have HT := Lib.hid (take_succ_eq Hg1.out Hg2.out Htk.out hxy)
          clear hxy
          go_wp2_with fail
          go_quiet (fail)
          go_wp2_with fail
          go_roundw
          case rel => exact ⟨k + 1, by omega, by go_num, HT.out, Hf.out.drewN _⟩
          case measure => simp [intOf]; omega
        · have h1 : (x != y) = true := by rw [bne_iff_ne]; exact hxy
          have HN : Hid (xs ≠ ys) := by
            intro e
            have h2 := Hg1.out
            rw [e, Hg2.out] at h2
            exact hxy (by simpa using h2.symm)
          clear hxy
          go_wp2_with fail
          go_quiet (fail)
          go_wp2_with fail
          go_ret
          exact ⟨by rw [decide_eq_false HN.out]; rfl, Hf.out.drewN _⟩
      · have HE : Hid (xs = ys) := by
          have h1 := Htk.out
          have h2 := Hl.out
          rw [List.take_of_length_le (by omega), List.take_of_length_le (by omega)] at h1
          exact h1
        go_wp2_with fail
        go_ret
        exact ⟨by rw [decide_eq_true HE.out]; rfl, Hf.out⟩
  · have hl2 : ((xs.length : Int) != (ys.length : Int)) = true := by rw [bne_iff_ne]; omega
    have HN : Hid (xs ≠ ys) := fun e => hl (by rw [e])
    clear hl
    go_enter Try.func19, Try.ntmps19
    go_wp2_with fail
    go_ret
    exact ⟨by rw [decide_eq_false HN.out]; rfl, Fr.refl _ _⟩
end Go.Proofs.Ytljgifjokdppgaa
