/-
  Walk of works: the chapter's example.
  No condition.
-/
import Derived.Test.YtplebgcgoigigaaAdIn
import Derived.Test.YtplebgcgoigigaaAdPure
namespace Go.Proofs.Ytplebgcgoigigaa
open Go Go.RowKit Go.Maps Go.Shelf

def exC : CapD := ⟨2, 10, 5⟩
def exM1 : List (Int × Nd) := [(1, ⟨0, false, 6, 5⟩)]
def exM2 : List (Int × Nd) := [(1, ⟨0, false, 6, 5⟩), (2, ⟨1, false, 4, 0⟩)]
def exM3 : List (Int × Nd) := [(2, ⟨1, false, 4, 0⟩)]
theorem ex1 : enterC exC [] 1 ⟨0, false, 6, 5⟩ = 0 ∧ enterM exC [] 1 ⟨0, false, 6, 5⟩ = exM1 := by decide +kernel
theorem ex2 : enterC exC exM1 2 ⟨1, false, 5, 0⟩ = 170 ∧ enterM exC exM1 2 ⟨1, false, 5, 0⟩ = exM1 := by decide +kernel
theorem ex3 : enterC exC exM1 2 ⟨1, false, 4, 0⟩ = 0 ∧ enterM exC exM1 2 ⟨1, false, 4, 0⟩ = exM2 := by decide +kernel
theorem ex4 : enterC exC exM2 3 ⟨2, false, 0, 0⟩ = 170 ∧ enterM exC exM2 3 ⟨2, false, 0, 0⟩ = exM2 := by decide +kernel
theorem ex5 : leaveC exM2 1 = 0 ∧ leaveM exM2 1 = exM3 := by decide +kernel
theorem ex6 : enterC exC exM3 3 ⟨1, true, 0, 0⟩ = 170 ∧ enterM exC exM3 3 ⟨1, true, 0, 0⟩ = exM3 := by decide +kernel
theorem ex7 : roomOf exC exM3 = ⟨1, 6, 5⟩ := by simp only [roomOf, CapD.mk.injEq]; decide +kernel
theorem exW : exC.wf := CapD.wf_of (by decide)

/-- The gate's blocks are new since w: what turned there has turned nothing of w. -/
theorem new_keep {w a b : World} {bm : Nat} (h : Fr w a Nil) (hn : w.heap.size ≤ bm) (hf : Fr a b (fun k => k = bm)) : Fr w b Nil :=
  h.trans hf fun j hj e => absurd hj (by rw [e]; omega)

set_option maxRecDepth 100000 in
set_option maxHeartbeats 1000000 in
theorem works_any (w : World) : Calls Try.prog 9 #[] w fun e w' => e = .returned (.bool true) ∧ Fr w w' Nil := by
  go_enter Try.func9, Try.ntmps9
  go_wp2_with fail
  refine (new_yes exC w (by decide)).mono ?_
  rintro e w1 ⟨gb, bm, rfl, hg, hf, _, hn⟩
  have HG := Lib.hid hg
  have HF := Lib.hid hf
  have HN := Lib.hid hn
  clear hg hf hn
  go_wp2_with fail
  refine (enter_any gb bm exC [] 1 ⟨0, false, 6, 5⟩ w1 HG.out exW (by decide) (by simp)).mono ?_
  rintro e w2 ⟨rfl, hg, hf⟩
  rw [ex1.1]
  rw [ex1.2] at hg
  have HG2 := Lib.hid hg
  have HF2 := Lib.hid (new_keep HF.out HN.out hf)
  clear hg hf HG HF
  go_wp2_with fail
  refine (enter_any gb bm exC exM1 2 ⟨1, false, 5, 0⟩ w2 HG2.out exW (by decide) (by decide)).mono ?_
  rintro e w3 ⟨rfl, hg, hf⟩
  rw [ex2.1]
  rw [ex2.2] at hg
  have HG3 := Lib.hid hg
  have HF3 := Lib.hid (new_keep HF2.out HN.out hf)
  clear hg hf HG2 HF2
  go_wp2_with fail
  refine (enter_any gb bm exC exM1 2 ⟨1, false, 4, 0⟩ w3 HG3.out exW (by decide) (by decide)).mono ?_
  rintro e w4 ⟨rfl, hg, hf⟩
  rw [ex3.1]
  rw [ex3.2] at hg
  have HG4 := Lib.hid hg
  have HF4 := Lib.hid (new_keep HF3.out HN.out hf)
  clear hg hf HG3 HF3
  go_wp2_with fail
  refine (enter_any gb bm exC exM2 3 ⟨2, false, 0, 0⟩ w4 HG4.out exW (by decide) (by decide)).mono ?_
  rintro e w5 ⟨rfl, hg, hf⟩
  rw [ex4.1]
  rw [ex4.2] at hg
  have HG5 := Lib.hid hg
  have HF5 := Lib.hid (new_keep HF4.out HN.out hf)
  clear hg hf HG4 HF4
  go_wp2_with fail
  refine (gleave_any gb bm exC exM2 1 w5 HG5.out (by decide)).mono ?_
  rintro e w6 ⟨rfl, hg, hf⟩
  rw [ex5.1]
  rw [ex5.2] at hg
  have HG6 := Lib.hid hg
  have HF6 := Lib.hid (new_keep HF5.out HN.out hf)
  clear hg hf HG5 HF5
  go_wp2_with fail
  refine (enter_any gb bm exC exM3 3 ⟨1, true, 0, 0⟩ w6 HG6.out exW (by decide) (by decide)).mono ?_
  rintro e w7 ⟨rfl, hg, hf⟩
  rw [ex6.1]
  rw [ex6.2] at hg
  have HG7 := Lib.hid hg
  have HF7 := Lib.hid (new_keep HF6.out HN.out hf)
  clear hg hf HG6 HF6
  go_wp2_with fail
  refine (room_any gb bm exC exM3 w7 HG7.out exW).mono ?_
  rintro e w8 ⟨rfl, hf⟩
  rw [ex7]
  have HG8 := Lib.hid (HG7.out.fr0 hf)
  have HF8 := Lib.hid (HF7.out.trans0 hf)
  clear hf HG7 HF7
  go_wp2_with fail
  refine (in_any gb bm exC exM3 w8 HG8.out (by decide)).mono ?_
  rintro e w9 ⟨v, rfl, hv, _, hf⟩
  obtain ⟨a, cap, rfl⟩ := hv.shape
  rw [keysOf_len]
  have HF9 := Lib.hid (HF8.out.trans0 hf)
  clear hv hf
  go_wp2_with fail
  go_ret
  exact ⟨rfl, HF9.out⟩
end Go.Proofs.Ytplebgcgoigigaa
