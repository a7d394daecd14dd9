/-
  Walk of the law RowsSame.
  No condition.
-/
import Derived.Test.YtljgifjokdppgaaRwTri
import Derived.Test.YtljgifjokdppgaaRfSame
import Derived.Test.YtljgifjokdppgaaRfFill
import Derived.Test.YtljgifjokdppgaaRwSame3
import Derived.Test.YtljgifjokdppgaaRwWorks
namespace Go.Proofs.Ytljgifjokdppgaa
open Go Go.RowKit

theorem api_same {w : World} {r s : Nat} {M1 M2 : List MTab} {S1 S2 : Nat → Prop} (h1 : Rws w r M1 S1) (h2 : Rws w s M2 S2) (g1 : Good M1) (g2 : Good M2) :
    Calls Try.prog 22 #[rptr r, rptr s] w fun e w' => e = .returned (.bool (decide (M1 = M2))) ∧ Fr w w' Nil := by
  obtain ⟨R, rfl, a2, a3, rfl, a5⟩ := h1
  obtain ⟨Q, rfl, b2, b3, rfl, b5⟩ := h2
  exact rsame_any R Q w a2 b2 g1 g2

set_option maxRecDepth 100000 in
set_option maxHeartbeats 1000000 in
theorem sameLaw_early (v va vb : Value) (cols : List Int) (la lb : List CallD) (w : World) (hv : IntsAt w v cols) (hl : cols.length ≤ 9223372036854775807) (ha : CallsAt w va la) (hb : CallsAt w vb lb)
    (hE : largeB la = true ∨ largeB lb = true ∨ 8 < cols.length ∨ ¬ colOk cols) :
    Calls Try.prog 5 #[v, va, vb] w fun e w' => e = .returned (.bool true) ∧ Fr w w' Nil := by
  obtain ⟨av, cv, rfl⟩ := hv.shape
  have Hv := Lib.hid hv
  have HA := Lib.hid ha
  have HB := Lib.hid hb
  clear hv ha hb
  by_cases h1 : largeB la = true
  · have H1 := Lib.hid h1
    clear h1 hE
    go_enter Try.func5, Try.ntmps5
    go_wp2_with fail
    refine (large_any _ la _ HA.out).mono ?_
    rintro e w1 ⟨he, hf⟩
    rw [H1.out] at he
    subst he
    have Hf := Lib.hid hf
    clear hf
    go_wp2_with fail
    refine (works_any _).mono ?_
    rintro e w2 ⟨rfl, hf⟩
    have Hf2 := Lib.hid (Hf.out.trans0 hf)
    clear hf
    go_wp2_with fail
    go_ret
    exact ⟨rfl, Hf2.out⟩
  have h1' : largeB la = false := by simpa using h1
  have H1 := Lib.hid h1'
  clear h1 h1'
  by_cases h2 : largeB lb = true
  · have H2 := Lib.hid h2
    clear h2 hE
    go_enter Try.func5, Try.ntmps5
    go_wp2_with fail
    refine (large_any _ la _ HA.out).mono ?_
    rintro e w1 ⟨he, hf⟩
    rw [H1.out] at he
    subst he
    have Hf := Lib.hid hf
    clear hf
    go_wp2_with fail
    refine (large_any _ lb _ (HB.out.fr Hf.out)).mono ?_
    rintro e w1b ⟨he, hf⟩
    rw [H2.out] at he
    subst he
    have Hfb := Lib.hid (Hf.out.trans0 hf)
    clear hf
    go_wp2_with fail
    refine (works_any _).mono ?_
    rintro e w2 ⟨rfl, hf⟩
    have Hf2 := Lib.hid (Hfb.out.trans0 hf)
    clear hf
    go_wp2_with fail
    go_ret
    exact ⟨rfl, Hf2.out⟩
  have h2' : largeB lb = false := by simpa using h2
  have H2 := Lib.hid h2'
  have hE' : 8 < cols.length ∨ (¬ 8 < cols.length ∧ ¬ colOk cols) := by
    rcases hE with h | h | h | h
    · rw [H1.out] at h; cases h
    · rw [h2'] at h; cases h
    · exact .inl h
    · by_cases h8 : 8 < cols.length
      · exact .inl h8
      · exact .inr ⟨h8, h⟩
  clear h2 h2' hE
  rcases hE' with h8 | ⟨h8, hno⟩
  · go_enter Try.func5, Try.ntmps5
    go_wp2_with fail
    refine (large_any _ la _ HA.out).mono ?_
    rintro e w1 ⟨he, hf⟩
    rw [H1.out] at he
    subst he
    have Hf := Lib.hid hf
    clear hf
    go_wp2_with fail
    refine (large_any _ lb _ (HB.out.fr Hf.out)).mono ?_
    rintro e w1b ⟨he, hf⟩
    rw [H2.out] at he
    subst he
    have Hfb := Lib.hid (Hf.out.trans0 hf)
    clear hf
    go_wp2_with fail
    refine (works_any _).mono ?_
    rintro e w2 ⟨rfl, hf⟩
    have Hf2 := Lib.hid (Hfb.out.trans0 hf)
    clear hf
    go_wp2_with fail
    go_ret
    exact ⟨rfl, Hf2.out⟩
  · have g8 : decide ((8 : Int) < (cols.length : Int)) = false := by rw [decide_eq_false_iff_not]; omega
    have Hno := Lib.hid hno
    clear hno
    go_enter Try.func5, Try.ntmps5
    go_wp2_with fail
    refine (large_any _ la _ HA.out).mono ?_
    rintro e w1 ⟨he, hf⟩
    rw [H1.out] at he
    subst he
    have Hf := Lib.hid hf
    clear hf
    go_wp2_with fail
    refine (large_any _ lb _ (HB.out.fr Hf.out)).mono ?_
    rintro e w1b ⟨he, hf⟩
    rw [H2.out] at he
    subst he
    have Hfb := Lib.hid (Hf.out.trans0 hf)
    clear hf
    go_wp2_with fail
    refine (rnew_any _ cols _ (Hv.out.fr Hfb.out fun _ _ h => h) hl).mono ?_
    rintro e w2 hr
    rcases hr with ⟨hok, _⟩ | ⟨_, rfl, hf⟩
    · exact absurd hok Hno.out
    have Hf2 := Lib.hid (Hfb.out.trans0 hf)
    clear hf
    go_wp2_with fail
    refine (rnew_any _ cols _ (Hv.out.fr Hf2.out fun _ _ h => h) hl).mono ?_
    rintro e w3 hr
    rcases hr with ⟨hok, _⟩ | ⟨_, rfl, hf⟩
    · exact absurd hok Hno.out
    have Hf3 := Lib.hid (Hf2.out.trans0 hf)
    clear hf
    go_wp2_with fail
    refine (works_any _).mono ?_
    rintro e w4 ⟨rfl, hf⟩
    have Hf4 := Lib.hid (Hf3.out.trans0 hf)
    clear hf
    go_wp2_with fail
    go_ret
    exact ⟨rfl, Hf4.out⟩
end Go.Proofs.Ytljgifjokdppgaa
