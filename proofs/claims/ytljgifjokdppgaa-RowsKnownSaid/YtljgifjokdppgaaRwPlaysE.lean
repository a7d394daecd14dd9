/-
  Walk of the law RowsPlays, its early ways.
  No condition.
-/
import Derived.Test.YtljgifjokdppgaaRwSameLaw
namespace Go.Proofs.Ytljgifjokdppgaa
open Go Go.RowKit

set_option maxRecDepth 100000 in
set_option maxHeartbeats 1000000 in
theorem playsLaw_early (v va : Value) (cols : List Int) (l : List CallD) (w : World) (hv : IntsAt w v cols) (hl : cols.length ≤ 9223372036854775807) (ha : CallsAt w va l)
    (hE : largeB l = true ∨ 100 < cols.length ∨ ¬ colOk cols) :
    Calls Try.prog 6 #[v, va] w fun e w' => e = .returned (.bool true) ∧ Fr w w' Nil := by
  obtain ⟨av, cv, rfl⟩ := hv.shape
  have Hv := Lib.hid hv
  have HA := Lib.hid ha
  clear hv ha
  by_cases h1 : largeB l = true
  · have H1 := Lib.hid h1
    clear h1 hE
    go_enter Try.func6, Try.ntmps6
    go_wp2_with fail
    refine (large_any _ l _ HA.out).mono ?_
    rintro e w1 ⟨he, hf⟩
    rw [H1.out] at he
    subst he
    have Hf := Lib.hid hf
    clear hf
    go_wp2_with fail
    refine (works_any _).mono ?_
    rintro e w2 ⟨rfl, hf⟩
    have Hf2 := Lib.hid (Hf.out.trans0 hf)
    clear hf
    go_wp2_with fail
    go_ret
    exact ⟨rfl, Hf2.out⟩
  have h1' : largeB l = false := by simpa using h1
  have H1 := Lib.hid h1'
  have hE' : 100 < cols.length ∨ (¬ 100 < cols.length ∧ ¬ colOk cols) := by
    rcases hE with h | h | h
    · rw [H1.out] at h; cases h
    · exact .inl h
    · by_cases h8 : 100 < cols.length
      · exact .inl h8
      · exact .inr ⟨h8, h⟩
  clear h1 h1' hE
  rcases hE' with h8 | ⟨h8, hno⟩
  · go_enter Try.func6, Try.ntmps6
    go_wp2_with fail
    refine (large_any _ l _ HA.out).mono ?_
    rintro e w1 ⟨he, hf⟩
    rw [H1.out] at he
    subst he
    have Hf := Lib.hid hf
    clear hf
    go_wp2_with fail
    refine (works_any _).mono ?_
    rintro e w2 ⟨rfl, hf⟩
    have Hf2 := Lib.hid (Hf.out.trans0 hf)
    clear hf
    go_wp2_with fail
    go_ret
    exact ⟨rfl, Hf2.out⟩
  · have g8 : decide ((100 : Int) < (cols.length : Int)) = false := by rw [decide_eq_false_iff_not]; omega
    have Hno := Lib.hid hno
    clear hno
    go_enter Try.func6, Try.ntmps6
    go_wp2_with fail
    refine (large_any _ l _ HA.out).mono ?_
    rintro e w1 ⟨he, hf⟩
    rw [H1.out] at he
    subst he
    have Hf := Lib.hid hf
    clear hf
    go_wp2_with fail
    refine (api_new _ cols _ (Hv.out.fr Hf.out fun _ _ h => h) hl).mono ?_
    rintro e w2 hr
    rcases hr with ⟨hok, _⟩ | ⟨_, rfl, hf⟩
    · exact absurd hok Hno.out
    have Hf2 := Lib.hid (Hf.out.trans0 hf)
    clear hf
    go_wp2_with fail
    refine (rnew_any _ cols _ (Hv.out.fr Hf2.out fun _ _ h => h) hl).mono ?_
    rintro e w3 hr
    rcases hr with ⟨hok, _⟩ | ⟨_, rfl, hf⟩
    · exact absurd hok Hno.out
    have Hf3 := Lib.hid (Hf2.out.trans0 hf)
    clear hf
    go_wp2_with fail
    refine (works_any _).mono ?_
    rintro e w4 ⟨rfl, hf⟩
    have Hf4 := Lib.hid (Hf3.out.trans0 hf)
    clear hf
    go_wp2_with fail
    go_ret
    exact ⟨rfl, Hf4.out⟩
end Go.Proofs.Ytljgifjokdppgaa
