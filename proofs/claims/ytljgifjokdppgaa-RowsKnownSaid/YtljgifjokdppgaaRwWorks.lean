/-
  The chapter's example answers true: walk of works.
  No condition.
-/
import Derived.Test.YtljgifjokdppgaaRwApi
namespace Go.Proofs.Ytljgifjokdppgaa
open Go Go.RowKit

theorem rows_two {k1 k2 : Int} {c1 c2 : List Int} {g : List GRow} (h : rowsOf g = [(k1, c1), (k2, c2)]) : ∃ r1 r2 : GRow, g = [r1, r2] ∧ r1.key = k1 ∧ r2.key = k2 := by
  match g, h with
  | [r1, r2], h =>
    simp [rowsOf] at h
    exact ⟨r1, r2, rfl, h.1.1, h.2.1⟩

def Mw1 : List MTab := [(2, [(5, [7, 8])]), (1, [])]
def Mw2 : List MTab := [(2, [(-1, [1, 1]), (5, [7, 8])]), (1, [])]
def Mw3 : List MTab := [(2, [(-1, [1, 1]), (5, [7, 3])]), (1, [])]
theorem goodw0 : Good (newMod [2, 1]) ∧ Few 0 (newMod [2, 1]) := good_new (by decide)
theorem ew1 : mput (newMod [2, 1]) 0 5 [7, 8] = (Mw1, 0) := by decide
theorem goodw1 : Good Mw1 ∧ Few 1 Mw1 := by have := good_put goodw0.1 goodw0.2 (by decide) 0 5 [7, 8]; rw [ew1] at this; exact this
theorem ew2 : mput Mw1 0 (-1) [1, 1] = (Mw2, 0) := by decide
theorem goodw2 : Good Mw2 ∧ Few 2 Mw2 := by have := good_put goodw1.1 goodw1.2 (by decide) 0 (-1) [1, 1]; rw [ew2] at this; exact this
theorem ew3 : mset Mw2 0 5 1 3 = (Mw3, true, 0) := by decide
theorem goodw3 : Good Mw3 ∧ Few 2 Mw3 := by have := good_set goodw2.1 goodw2.2 0 5 1 3; rw [ew3] at this; exact this
theorem ew4 : mset Mw3 0 6 1 3 = (Mw3, false, 0) := by decide
theorem ew5 : mput Mw3 1 0 [1, 2] = (Mw3, 2) := by decide
theorem sw2 : msum (mtab Mw2 0) 1 = 9 := by decide
theorem sw3 : msum (mtab Mw3 0) 1 = 4 := by decide

/-- The blocks turned are of the call's own. -/
theorem UpdS.below {w0 w w' : World} {rb : Nat} {S : Nat → Prop} {M : List MTab} (h : UpdS w rb S M w') (hf : Fr w0 w Nil) (hS : ∀ k, S k → w0.heap.size ≤ k) :
    ∃ S', Rws w' rb M S' ∧ (∀ k, S' k → w0.heap.size ≤ k) ∧ Fr w0 w' Nil := by
  obtain ⟨S', h1, h2, h3⟩ := h
  refine ⟨S', h1, fun k hk => ?_, hf.trans h3 fun k hk hs => ?_⟩
  · rcases h2 k hk with h | h
    · exact hS k h
    · exact Nat.le_trans hf.size h
  · have := hS k hs; omega

set_option maxRecDepth 100000 in
set_option maxHeartbeats 1000000 in
theorem works_any (w : World) : Calls Try.prog 9 #[] w fun e w' => e = .returned (.bool true) ∧ Fr w w' Nil := by
  go_enter Try.func9, Try.ntmps9
  go_wp2_with fail
  refine (api_new _ [2, 1] _ (intsAt_bk (Bk.new _ _ _) rfl) (by decide)).mono ?_
  rintro e w1 h
  rcases h with ⟨_, rb, S, rfl, hR, hS, hf⟩ | ⟨h, _⟩
  rotate_left
  · exact absurd (by decide) h
  have HR := Lib.hid hR
  have HS : Hid (∀ k, S k → w.heap.size ≤ k) := fun k hk => Nat.le_trans (by simp) (hS k hk)
  have Hf := Lib.hid ((((Fr.refl w Nil).alloc _).trans0 hf))
  clear hR hS hf
  go_wp2_with fail
  refine (api_put _ _ _ [7, 8] (HR.out.fr0 ((Fr.refl _ Nil).alloc _)) goodw0.1 (intsAt_bk (Bk.new _ _ _) rfl) (by decide)).mono ?_
  rintro e w2 ⟨he, hu⟩
  rw [ew1] at he hu
  subst he
  obtain ⟨S2, hR, hS, hf⟩ := hu.below (Hf.out.alloc _) HS.out
  clear hu HR HS Hf
  have HR := Lib.hid hR
  have HS := Lib.hid hS
  have Hf := Lib.hid hf
  clear hR hS hf
  go_wp2_with fail
  refine (api_put _ _ _ [1, 1] (HR.out.fr0 ((Fr.refl _ Nil).alloc _)) goodw1.1 (intsAt_bk (Bk.new _ _ _) rfl) (by decide)).mono ?_
  rintro e w3 ⟨he, hu⟩
  rw [ew2] at he hu
  subst he
  obtain ⟨S3, hR, hS, hf⟩ := hu.below (Hf.out.alloc _) HS.out
  clear hu HR HS Hf
  have HR := Lib.hid hR
  have HS := Lib.hid hS
  have Hf := Lib.hid hf
  clear hR hS hf
  go_wp2_with fail
  refine (api_all 0 HR.out goodw2.1).mono ?_
  rintro e w4 ⟨a4, c4, g, rfl, hN, hrows, hf4⟩
  obtain ⟨r1, r2, rfl, hk1, hk2⟩ := rows_two hrows
  obtain ⟨b, cap, hlv, _⟩ : ∃ b cap, Value.slice a4 2 c4 = .slice (some ⟨b, 0, none⟩) 2 cap ∧ True := by
    rcases hN.rl.shape with ⟨h1, h2⟩ | ⟨b, cap, h1, _⟩
    · cases h2
    · exact ⟨b, cap, h1, trivial⟩
  simp only [Value.slice.injEq, true_and] at hlv
  obtain ⟨rfl, rfl⟩ := hlv
  have q0 := hN.rl.key 0 r1 rfl
  have q1 := hN.rl.key 1 r2 rfl
  rw [hk1] at q0
  rw [hk2] at q1
  simp only [Nat.zero_mul, Nat.one_mul] at q0 q1
  have HR4 := Lib.hid (HR.out.fr0 hf4)
  have Hf4 := Lib.hid (Hf.out.trans0 hf4)
  clear HR Hf hN hrows hf4 hk1 hk2
  go_wp2_with fail
  refine (api_sum 0 1 HR4.out goodw2.1).mono ?_
  rintro e w5 ⟨he, hf⟩
  rw [sw2] at he
  subst he
  have HR := Lib.hid (HR4.out.fr0 hf)
  have Hf := Lib.hid (Hf4.out.trans0 hf)
  clear HR4 Hf4 hf q0 q1
  go_wp2_with fail
  refine (api_set 0 5 1 3 HR.out goodw2.1).mono ?_
  rintro e w6 ⟨he, hu⟩
  rw [ew3] at he hu
  subst he
  obtain ⟨S6, hR, hS, hf⟩ := hu.below Hf.out HS.out
  clear hu HR HS Hf
  have HR := Lib.hid hR
  have HS := Lib.hid hS
  have Hf := Lib.hid hf
  clear hR hS hf
  go_wp2_with fail
  refine (api_set 0 6 1 3 HR.out goodw3.1).mono ?_
  rintro e w7 ⟨he, hu⟩
  rw [ew4] at he hu
  subst he
  obtain ⟨S7, hR, hS, hf⟩ := hu.below Hf.out HS.out
  clear hu HR HS Hf
  have HR := Lib.hid hR
  have HS := Lib.hid hS
  have Hf := Lib.hid hf
  clear hR hS hf
  go_wp2_with fail
  refine (api_sum 0 1 HR.out goodw3.1).mono ?_
  rintro e w8 ⟨he, hf⟩
  rw [sw3] at he
  subst he
  have HR8 := Lib.hid (HR.out.fr0 hf)
  have Hf8 := Lib.hid (Hf.out.trans0 hf)
  clear HR Hf hf
  go_wp2_with fail
  refine (api_put _ _ _ [1, 2] (HR8.out.fr0 ((Fr.refl _ Nil).alloc _)) goodw3.1 (intsAt_bk (Bk.new _ _ _) rfl) (by decide)).mono ?_
  rintro e w9 ⟨he, hu⟩
  rw [ew5] at he hu
  subst he
  obtain ⟨S9, hR, hS, hf⟩ := hu.below (Hf8.out.alloc _) HS.out
  clear hu HR8 HS Hf8
  have HR := Lib.hid hR
  have Hf := Lib.hid hf
  clear hR hS hf
  go_wp2_with fail
  refine (api_tables HR.out goodw3.1).mono ?_
  rintro e w10 ⟨rfl, rfl⟩
  go_wp2_with fail
  refine (api_cols 0 HR.out goodw3.1).mono ?_
  rintro e w11 ⟨rfl, hf⟩
  have Hf11 := Lib.hid (Hf.out.trans0 hf)
  clear hf
  go_wp2_with fail
  go_ret
  exact ⟨rfl, Hf11.out⟩
end Go.Proofs.Ytljgifjokdppgaa
