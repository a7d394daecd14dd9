/-
  The walk of UndoPlays: it answers true.
  No condition.
-/
import Derived.Test.YtjpenaodkfljhaaUgDoes
namespace Go.Proofs.Ytjpenaodkfljhaa
open Go Go.RowKit

section
variable (most : Int) (va : Value) (la : List UCall) (w : World)
set_option maxRecDepth 100000 in
set_option maxHeartbeats 1000000 in
theorem uplays_early (ha : UCallsAt w va la) (hE : 60 < la.length) :
    Calls Try.prog 5 #[.int .i64 most, va] w fun e w' => e = .returned (.bool true) ∧ Fr w w' Nil := by
  obtain ⟨aa, ca, rfl, hca⟩ := ha.shape
  clear ha
  have h1' : (60 : Int) < (la.length : Int) := by omega
  go_enter Try.func5, Try.ntmps5
  go_wp2_with fail
  refine (works_any _).mono ?_
  rintro e w9 ⟨rfl, hf⟩
  have HF := Lib.hid hf
  clear hf
  go_wp2_with fail
  go_ret
  exact ⟨rfl, HF.out⟩
set_option maxRecDepth 100000 in
set_option maxHeartbeats 4000000 in
theorem uplays_main (ha : UCallsAt w va la) (h1 : la.length ≤ 60) :
    Calls Try.prog 5 #[.int .i64 most, va] w fun e w' => e = .returned (.bool true) ∧ Fr w w' Nil := by
  obtain ⟨aa, ca, rfl, hca⟩ := ha.shape
  have HA := Lib.hid ha
  have h1' : ¬ (60 : Int) < (la.length : Int) := by omega
  clear ha
  go_enter Try.func5, Try.ntmps5
  go_wp2_with fail
  refine (st_new (Lies.nil (Fr.refl w Nil)) most).mono ?_
  rintro e w1 ⟨lb, rfl, h⟩
  have HL := Lib.hid h
  clear h
  go_wp2_with fail
  refine (st_dnew HL.out most).mono ?_
  rintro e w2 ⟨db, rfl, h⟩
  have HL2 := Lib.hid h
  clear h HL
  go_wp2_with fail
  refine (twotabs_any HL2.out).mono ?_
  rintro e w3 ⟨rb, qb, rfl, h⟩
  have HL3 : Hid (Lies w w3 [logT lb (max 0 most) [], dlogT db (max 0 most) [], rowsT rb tabs0, refM qb tabs0]) := h
  clear h HL2
  go_wp2_with fail
  go_loopw [9] (fun vi wr => ∃ (i : Nat) (M : List MTab) (L : List (Int × Ent)), i ≤ la.length ∧ vi = .int .i64 i ∧ InvP i M L ∧ Lies w wr [logT lb (max 0 most) L, dlogT db (max 0 most) L, rowsT rb M, refM qb M]) (fun vi _ => la.length - (intOf vi).toNat)
  case atStart => exact ⟨0, tabs0, [], by omega, rfl, ⟨ok_tabs0, by simp, fun p hp => by cases hp⟩, HL3.out⟩
  case round =>
    clear HL3
    obtain ⟨i, M, L, hi, rfl, hinv, h⟩ := hrel
    have HI := Lib.hid hinv
    have HL := Lib.hid h
    obtain ⟨wo, rfl⟩ : ∃ wo : World, wo = wr := ⟨_, rfl⟩
    clear hinv h
    by_cases hlt : i < la.length
    · obtain ⟨tb, toff, tcap2, htv, htc⟩ := (HA.out.fr0 HL.out.fr).form (by omega)
      simp only [Value.slice.injEq, true_and] at htv
      obtain ⟨rfl, rfl⟩ := htv
      have hgt := List.getElem?_eq_getElem hlt
      generalize la[i] = t at hgt
      obtain ⟨p0, p1, p2, p3, p4⟩ := ucall_cells htc hgt
      have hii : (i : Int) < (la.length : Int) := by omega
      have HX := Lib.hid hgt
      have HTW : Hid ((Lit.int .i64 t.who).wf = true) := t.okw
      clear htc hgt
      go_wp2_with fail
      refine (udoes_any t HL.out HI.out (by omega)).mono ?_
      rintro e w4 ⟨rfl, M', L', hinv', h⟩
      have HI4 := Lib.hid hinv'
      have HL4 := Lib.hid h
      obtain ⟨tb2, toff2, tcap3, htv, htc⟩ := (HA.out.fr0 HL4.out.fr).form (by omega)
      simp only [Value.slice.injEq, Option.some.injEq, Addr.mk.injEq, true_and, and_true] at htv
      obtain ⟨⟨rfl, rfl⟩, rfl⟩ := htv
      have r1 := (ucall_cells htc HX.out).2.1
      clear hinv' h p0 p1 p2 p3 p4 htc
      go_wp2_with fail
      refine (st_tells HL4.out 0 1 2 3 rfl rfl rfl rfl t.who HI4.out.ok.good HI4.out.ok.few (by have := HI4.out.len; omega) HTW.out HI4.out.wf).mono ?_
      rintro e w5 ⟨rfl, h⟩
      have HL5 := Lib.hid h
      clear h HL4 r1
      go_wp2_with fail
      go_roundw
      case rel => exact ⟨i + 1, M', L', by omega, by go_num, HI4.out, HL5.out⟩
      case measure => simp [intOf]; omega
    · obtain rfl : i = la.length := by omega
      go_wp2_with fail
      refine (works_any _).mono ?_
      rintro e w8 ⟨rfl, hf⟩
      have HF := Lib.hid (HL.out.fr.trans0 hf)
      clear hf
      go_wp2_with fail
      go_ret
      exact ⟨rfl, HF.out⟩
theorem uplays_any (ha : UCallsAt w va la) :
    Calls Try.prog 5 #[.int .i64 most, va] w fun e w' => e = .returned (.bool true) ∧ Fr w w' Nil := by
  by_cases h1 : la.length ≤ 60
  · exact uplays_main most va la w ha h1
  · exact uplays_early most va la w ha (by omega)
end
end Go.Proofs.Ytjpenaodkfljhaa
