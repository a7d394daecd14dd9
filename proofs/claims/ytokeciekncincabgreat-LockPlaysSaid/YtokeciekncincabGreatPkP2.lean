/-
  The law LockPlays: any row of calls is answered as the document says.
  No condition.
-/
import Derived.Test.YtokeciekncincabGreatPkC45
namespace Go.Proofs.YtokeciekncincabGreat
open Go Go.RowKit Go.Maps

section
variable (most : Int) (cv : Value) (l : List CallK) (w : World)
set_option maxRecDepth 100000 in
set_option maxHeartbeats 8000000 in
theorem lplays_main (hc : KCallsAt w cv l) (hl : l.length ≤ 60) :
    Calls Tryz.prog 3 #[.int .i64 most, cv] w fun e w' => e = .returned (.bool true) ∧ Fr w w' Nil := by
  obtain ⟨ca, cc, rfl, hcc⟩ := hc.shape
  have cN := new_T most w
  have hcl60 : ¬ (60 : Int) < (l.length : Int) := by omega
  have HC := Lib.hid hc
  clear hc
  go_enter Tryz.func3, Tryz.ntmps3
  go_wp2_with fail
  refine cN.mono ?_
  rintro e w1 ⟨lb, S1, rfl, hT, hT2, hf1⟩
  have cM := rnew_any most w1
  clear cN
  go_wp2_with fail
  refine cM.mono ?_
  rintro e w2 ⟨mb, S2, rfl, hD, hD2, hf2⟩
  have HU1 := Lib.hid (two_new hT hT2 hD hD2 hf1 hf2)
  have HF1 := Lib.hid (hf1.trans0 hf2)
  clear cM hT hT2 hD hD2 hf1 hf2
  go_wp2_with fail
  go_loopw [7] (fun vi wr => ∃ (i : Nat) (D : LkS), vi = .int .i64 (i : Int) ∧ i ≤ l.length ∧ Hid (Two wr lb mb D D i (3 + 4 * i) (Low w.heap.size)) ∧ Hid (Fr w wr Nil)) (fun vi _ => l.length - (intOf vi).toNat)
  case atStart => exact ⟨0, _, rfl, by omega, HU1.out, HF1.out⟩
  case round =>
    clear HU1 HF1
    obtain ⟨i, D0, rfl, hi, HU, HFR⟩ := hrel
    obtain ⟨wo, rfl⟩ : ∃ wo : World, wo = wr := ⟨_, rfl⟩
    by_cases hlt : i < l.length
    · have hil : (i : Int) < (l.length : Int) := by omega
      obtain ⟨b, off, cap', hvv, hcl⟩ := HC.out.form (by omega)
      simp only [Value.slice.injEq, true_and] at hvv
      obtain ⟨rfl, rfl⟩ := hvv
      obtain ⟨t, ht⟩ : ∃ t, l[i]? = some t := ⟨_, List.getElem?_eq_getElem hlt⟩
      have hcw : ∀ j u, t.vals[j]? = some u → wo.cell? ⟨b, off + i * 6 + j, none⟩ = some u := fun j u hu => HFR.out.cell (hcl i t ht j u hu) (fun h => h)
      have p0 := hcw 0 _ rfl
      have p1 := hcw 1 _ rfl
      have p2 := hcw 2 _ rfl
      have p3 := hcw 3 _ rfl
      have p4 := hcw 4 _ rfl
      have p5 := hcw 5 _ rfl
      simp only [Nat.add_zero] at p0
      have cD := ldoes_any (kc := t.kind) (m := t.m) HU.out HFR.out.size (by omega) (by omega) t.okw t.oks t.okm.1
      obtain ⟨D, hDD⟩ : ∃ D, doF (t.kind.tmod 10) D0 t.who t.s t.m = D := ⟨_, rfl⟩
      rw [hDD] at cD
      clear ht hcw hcl hDD HU
      obtain ⟨tkd, who, s, m, okk, okw, oks, okm⟩ := t
      dsimp only at p0 p1 p2 p3 p4 p5 cD
      clear okk okw oks okm
      go_wp2_with fail
      refine cD.mono ?_
      rintro e w3 ⟨rfl, hU, hf⟩
      have HU := Lib.hid hU
      have hF3 : Fr w w3 Nil := low_back HFR.out hf fun k h => h
      have HF3 := Lib.hid hF3
      have cT := ltells_any hU (by omega) (HC.out.fr0 hF3) (by omega)
      clear cD hU hf p0 p1 p2 p3 p4 p5 HFR hF3
      go_wp2_with fail
      refine cT.mono ?_
      rintro e w4 ⟨rfl, hf4⟩
      have HU4 := Lib.hid (HU.out.fr0 hf4)
      have HF4 := Lib.hid (HF3.out.trans0 hf4)
      clear cT hf4
      go_wp2_with fail
      go_roundw
      case rel => exact ⟨i + 1, D, by go_num, by omega, HU4.out, HF4⟩
      case measure => simp [intOf]; omega
    · obtain rfl : i = l.length := by omega
      have cW := works_any wo
      go_wp2_with fail
      refine cW.mono ?_
      rintro e w9 ⟨rfl, hf9⟩
      have HF9 := Lib.hid (HFR.out.trans0 hf9)
      clear cW hf9
      go_wp2_with fail
      go_ret
      exact ⟨rfl, HF9.out⟩
theorem lplays_any (hc : KCallsAt w cv l) :
    Calls Tryz.prog 3 #[.int .i64 most, cv] w fun e w' => e = .returned (.bool true) ∧ Fr w w' Nil := by
  by_cases hl : l.length ≤ 60
  · exact lplays_main most cv l w hc hl
  · obtain ⟨ca, cc, rfl, hcc⟩ := hc.shape
    have hb : (60 : Int) < (l.length : Int) := by omega
    have cW := works_any w
    go_enter Tryz.func3, Tryz.ntmps3
    go_wp2_with fail
    refine cW.mono ?_
    rintro e w9 ⟨rfl, hf9⟩
    have HF9 := Lib.hid hf9
    clear cW hf9
    go_wp2_with fail
    go_ret
    exact ⟨rfl, HF9.out⟩
end
end Go.Proofs.YtokeciekncincabGreat
