/-
  Walk of the law's same.
  No condition but sizes.
-/
import Derived.Test.YtokeciekncincabGreatPkC9
import Derived.BigQuiet
import Derived.Deep.QuietTactic
namespace Go.Proofs.YtokeciekncincabGreat
open Go Go.RowKit

theorem IntsAt.formN {w : World} {a : Option Addr} {n c : Nat} {xs : List Int} (h : IntsAt w (.slice a n c) xs) (hn : 0 < xs.length) : ∃ b off, a = some ⟨b, off, none⟩ ∧ n = xs.length ∧ ∀ j x, xs[j]? = some x → w.cell? ⟨b, off + j, none⟩ = some (.int .i64 x) := by
  obtain ⟨b, off, cap, hv, hc⟩ := h.form hn
  simp only [Value.slice.injEq] at hv
  obtain ⟨rfl, rfl, rfl⟩ := hv
  exact ⟨b, off, rfl, rfl, hc⟩
def SameTo' (xs ys : List Int) (k : Nat) : Prop := xs.take k = ys.take k
set_option maxHeartbeats 400000 in
theorem sameInts_any (a b : Value) (xs ys : List Int) (w : World) (ha : IntsAt w a xs) (hb : IntsAt w b ys) (hl : xs.length ≤ 1000000) (hl2 : ys.length ≤ 1000000) :
    Calls Tryz.prog 27 #[a, b] w fun e w' => e = .returned (.bool (decide (xs = ys))) ∧ Fr w w' Nil := by
  generalize hres : decide (xs = ys) = res
  have HR := Lib.hid hres
  obtain ⟨aa, ac, rfl⟩ := ha.shape
  obtain ⟨ba, bc, rfl⟩ := hb.shape
  have HA := Lib.hid ha
  have HB := Lib.hid hb
  clear ha hb hres
  by_cases hlen : xs.length = ys.length
  · have HLN := Lib.hid hlen
    rw [← hlen] at HB ⊢
    clear hlen
    go_enter Tryz.func27, Tryz.ntmps27
    go_wp2_with fail
    go_loopw [5] (fun vi wr => ∃ k : Nat, k ≤ xs.length ∧ vi = .int .i64 (k : Int) ∧ SameTo' xs ys k ∧ Fr w wr Nil) (fun vi _ => xs.length - (intOf vi).toNat)
    case atStart => exact ⟨0, by omega, rfl, rfl, Fr.refl _ _⟩
    case round =>
      obtain ⟨k, hk, rfl, hs, hf⟩ := hrel
      have HS := Lib.hid hs
      have HF := Lib.hid hf
      clear hs hf
      by_cases hlt : k < xs.length
      · have hkl : (k : Int) < (xs.length : Int) := by omega
        obtain ⟨xb, xo, rfl, -, hxc⟩ := HA.out.formN (by omega)
        obtain ⟨yb, yo, rfl, -, hyc⟩ := HB.out.formN (by have := HLN.out; omega)
        have hy : k < ys.length := by have := HLN.out; omega
        have q0 := HF.out.cell (hxc k _ (List.getElem?_eq_getElem hlt)) (fun h => h)
        have q1 := HF.out.cell (hyc k _ (List.getElem?_eq_getElem hy)) (fun h => h)
        have HX : Hid (xs.take (k + 1) = xs.take k ++ [xs[k]] ∧ ys.take (k + 1) = ys.take k ++ [ys[k]]) := ⟨List.take_succ_eq_append_getElem hlt, List.take_succ_eq_append_getElem hy⟩
        have HNE : Hid (xs[k] ≠ ys[k] → res = false) := fun h => by
          rw [← HR.out]
          exact decide_eq_false (fun e => h (by subst e; rfl))
        generalize xs[k] = x at *
        generalize ys[k] = y at *
        clear hxc hyc hy
        cases hb : (x == y) with
        | true =>
          have h1 : (x != y) = false := by simp [bne, hb]
          have HE := Lib.hid (eq_of_beq hb)
          clear hb
          go_wp2_with fail
          go_quiet (fail)
          rename_i nq
          go_wp2_with fail
          go_roundw
          case rel => exact ⟨k + 1, by omega, by go_num, by have h9 := HS.out; unfold SameTo' at h9 ⊢; rw [HX.out.1, HX.out.2, HE.out, h9], HF.out.drewN nq⟩
          case measure => simp [intOf]; omega
        | false =>
          have h1 : (x != y) = true := by simp [bne, hb]
          have HE : Hid (res = false) := HNE.out (fun e => by rw [e] at hb; simp at hb)
          clear hb
          go_wp2_with fail
          go_quiet (fail)
          rename_i nq
          go_wp2_with fail
          go_ret
          exact ⟨by rw [HE.out]; rfl, HF.out.drewN nq⟩
      · obtain rfl : k = xs.length := by omega
        have HE : Hid (res = true) := by
          have h1 := HS.out
          unfold SameTo' at h1
          rw [List.take_length, HLN.out, List.take_length] at h1
          have : res = true := by rw [← HR.out]; exact decide_eq_true h1
          exact this
        go_wp2_with fail
        go_ret
        exact ⟨by rw [HE.out]; rfl, HF.out⟩
  · have HE : Hid (res = false) := by
      have : res = false := by rw [← HR.out]; exact decide_eq_false (fun e => hlen (by rw [e]))
      exact this
    have h1 : ((xs.length : Int) != (ys.length : Int)) = true := by simp; omega
    clear hlen
    go_enter Tryz.func27, Tryz.ntmps27
    go_wp2_with fail
    go_ret
    exact ⟨by rw [HE.out]; rfl, Fr.refl _ _⟩
end Go.Proofs.YtokeciekncincabGreat
