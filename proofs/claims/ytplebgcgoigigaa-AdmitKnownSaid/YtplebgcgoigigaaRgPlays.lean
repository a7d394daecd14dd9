/-
  The walk of AdmitPlays: it answers true.
  No condition.
-/
import Derived.Test.YtplebgcgoigigaaRgTells
namespace Go.Proofs.Ytplebgcgoigigaa
open Go Go.RowKit Go.Maps Go.Shelf

section
variable (c : CapD) (cv : Value) (calls : List CallD) (w : World)
set_option maxRecDepth 100000 in
set_option maxHeartbeats 1000000 in
theorem aplays_long (hcs : CallsAt w cv calls) (hl : 80 < calls.length) :
    Calls Try.prog 4 #[c.val, cv] w fun e w' => e = .returned (.bool true) ∧ Fr w w' Nil := by
  obtain ⟨ca, ccap, rfl, hcc⟩ := hcs.shape
  have hl2 : (80 : Int) < (calls.length : Int) := by omega
  have HF := Lib.hid ((Fr.refl w Nil).alloc (.cells #[.int .i64 c.n, .int .i64 c.l, .int .i64 c.u] 23))
  clear hcs
  go_enter Try.func4, Try.ntmps4
  go_wp2_with fail
  refine (works_any _).mono ?_
  rintro e w9 ⟨rfl, hf9⟩
  have HF9 := Lib.hid (HF.out.trans0 hf9)
  clear hf9
  go_wp2_with fail
  go_ret
  exact ⟨rfl, HF9.out⟩
set_option maxRecDepth 100000 in
set_option maxHeartbeats 1000000 in
theorem aplays_no (hcs : CallsAt w cv calls) (hm : c.may = false) (hl : calls.length ≤ 80) :
    Calls Try.prog 4 #[c.val, cv] w fun e w' => e = .returned (.bool true) ∧ Fr w w' Nil := by
  obtain ⟨ca, ccap, rfl, hcc⟩ := hcs.shape
  have HM := Lib.hid hm
  have hl2 : ¬ (80 : Int) < (calls.length : Int) := by omega
  have HB := Lib.hid (bk_at w 23 #[.int .i64 c.n, .int .i64 c.l, .int .i64 c.u] _ rfl)
  clear hcs hm
  go_enter Try.func4, Try.ntmps4
  go_wp2_with fail
  refine (new_no c _ HM.out).mono ?_
  rintro e w1 ⟨rfl, hf⟩
  have HF : Hid (Fr w w1 Nil) := ((Fr.refl w Nil).alloc _).trans0 hf
  have hb1 := HB.out.fr hf fun h => h
  have q0 := hb1.cell 0
  have q1 := hb1.cell 1
  have q2 := hb1.cell 2
  simp only [List.getElem?_cons_zero, List.getElem?_cons_succ] at q0 q1 q2
  clear hf hb1
  go_wp2_with fail
  refine (rnew_any c w1).mono ?_
  rintro e w2 ⟨rb, rfl, _, hf2⟩
  rw [HM.out]
  have HF2 := Lib.hid (HF.out.trans0 hf2)
  clear hf2 q0 q1 q2
  by_cases h0 : 0 < calls.length
  · have h1 : (0 : Int) < (calls.length : Int) := by omega
    go_wp2_with fail
    go_loopw [9] (fun vi wr => vi = .int .i64 0 ∧ Fr w2 wr Nil) (fun _ _ => 0)
    case atStart => exact ⟨rfl, Fr.refl _ _⟩
    case round =>
      obtain ⟨rfl, hfr⟩ := hrel
      have HF3 := Lib.hid (HF2.out.trans0 hfr)
      clear hfr
      go_wp2_with fail
      refine (works_any _).mono ?_
      rintro e w9 ⟨rfl, hf9⟩
      have HF9 := Lib.hid (HF3.out.trans0 hf9)
      clear hf9
      go_wp2_with fail
      go_ret
      exact ⟨rfl, HF9.out⟩
  · have h1 : (calls.length : Int) = 0 := by omega
    go_wp2_with fail
    go_loopw [9] (fun vi wr => vi = .int .i64 0 ∧ Fr w2 wr Nil) (fun _ _ => 0)
    case atStart => exact ⟨rfl, Fr.refl _ _⟩
    case round =>
      obtain ⟨rfl, hfr⟩ := hrel
      have HF3 := Lib.hid (HF2.out.trans0 hfr)
      clear hfr
      go_wp2_with fail
      refine (works_any _).mono ?_
      rintro e w9 ⟨rfl, hf9⟩
      have HF9 := Lib.hid (HF3.out.trans0 hf9)
      clear hf9
      go_wp2_with fail
      go_ret
      exact ⟨rfl, HF9.out⟩
set_option maxRecDepth 100000 in
set_option maxHeartbeats 2000000 in
theorem aplays_main (hcs : CallsAt w cv calls) (hm : c.may = true) (hl : calls.length ≤ 80) :
    Calls Try.prog 4 #[c.val, cv] w fun e w' => e = .returned (.bool true) ∧ Fr w w' Nil := by
  obtain ⟨ca, ccap, rfl, hcc⟩ := hcs.shape
  have HCS := Lib.hid hcs
  have HM := Lib.hid hm
  have hl2 : ¬ (80 : Int) < (calls.length : Int) := by omega
  have HB := Lib.hid (bk_at w 23 #[.int .i64 c.n, .int .i64 c.l, .int .i64 c.u] _ rfl)
  clear hcs hm
  go_enter Try.func4, Try.ntmps4
  go_wp2_with fail
  refine (new_yes c _ HM.out).mono ?_
  rintro e w1 ⟨gb, bm, rfl, hg, hf, _, hn⟩
  have HN : Hid (w.heap.size ≤ bm ∧ w.heap.size ≤ w1.heap.size) := by
    have h1 : w.heap.size ≤ bm ∧ w.heap.size ≤ w1.heap.size := by
      have := hf.size
      simp at hn this
      omega
    exact h1
  have HF : Hid (Fr w w1 Nil) := ((Fr.refl w Nil).alloc _).trans0 hf
  have HG := Lib.hid hg
  have hb1 := HB.out.fr hf fun h => h
  have q0 := hb1.cell 0
  have q1 := hb1.cell 1
  have q2 := hb1.cell 2
  simp only [List.getElem?_cons_zero, List.getElem?_cons_succ] at q0 q1 q2
  clear hf hb1 hn hg HB
  go_wp2_with fail
  refine (rnew_any c w1).mono ?_
  rintro e w2 ⟨rb, rfl, hr2, hf2⟩
  rw [HM.out]
  have HF2 := Lib.hid (HF.out.trans0 hf2)
  have HG2 := Lib.hid (HG.out.fr0 hf2)
  have HR2 := Lib.hid hr2
  have HBB : Hid (gb < w1.heap.size ∧ bm < w1.heap.size) := ⟨HG.out.1.lt, HG.out.2.lt⟩
  clear hf2 q0 q1 q2 hr2 HG HF
  generalize w1.heap.size = B at *
  go_wp2_with fail
  go_loopw [9] (fun vi wr => ∃ (k : Nat) (M : List MR), k ≤ calls.length ∧ vi = .int .i64 k ∧ GateAt wr gb bm c M ∧ RGat B wr rb c M ∧ Inv c M ∧ M.length ≤ k ∧ Fr w2 wr (fun j => j = bm ∨ B ≤ j)) (fun vi _ => calls.length - (intOf vi).toNat)
  case atStart => exact ⟨0, [], by omega, rfl, HG2.out, HR2.out, Inv.nil HM.out, by simp, Fr.refl _ _⟩
  case round =>
    clear HG2 HR2
    obtain ⟨k, M, hk, rfl, hg, hr, hi, hml, hf⟩ := hrel
    have HG := Lib.hid hg
    have HR := Lib.hid hr
    have HI := Lib.hid hi
    have Hf := Lib.hid hf
    have HFw : Hid (Fr w wr Nil) := HF2.out.trans hf fun j hj e => absurd hj (by have := HN.out; rcases e with e | e <;> omega)
    obtain ⟨wo, rfl⟩ : ∃ wo : World, wo = wr := ⟨_, rfl⟩
    clear hg hr hi hf
    by_cases hlt : k < calls.length
    · obtain ⟨tb, toff, tcap2, htv, htc⟩ := (HCS.out.fr0 HFw.out).form (by omega)
      simp only [Value.slice.injEq, true_and] at htv
      obtain ⟨rfl, rfl⟩ := htv
      have hgt := List.getElem?_eq_getElem hlt
      generalize calls[k] = t at hgt
      obtain ⟨p0, p1, p2, p3, p4, p5⟩ := call_cells htc hgt
      have hki : (k : Int) < (calls.length : Int) := by omega
      obtain ⟨tk, tw, ⟨np, ns, nl, nu⟩, tok, tow⟩ := t
      simp only at p0 p1 p2 p3 p4 p5
      clear htc hgt
      go_wp2_with fail
      refine (does_any (B := B) (gb := gb) (bm := bm) (rb := rb) (c := c) (M := M) tk tw ⟨np, ns, nl, nu⟩ _ HG.out HR.out HI.out HBB.out tow (by omega)).mono ?_
      rintro e w3 ⟨rfl, M', hg3, hr3, hi3, hml3, hf3⟩
      have HG3 := Lib.hid hg3
      have HR3 := Lib.hid hr3
      have HI3 := Lib.hid hi3
      have Hf3 := Lib.hid (Hf.out.transS hf3)
      clear hg3 hr3 hi3 hf3 p0 p1 p2 p3 p4 p5
      go_wp2_with fail
      refine (tells_any w3 HG3.out HR3.out HI3.out (by omega)).mono ?_
      rintro e w4 ⟨rfl, hf4⟩
      have HG4 := Lib.hid (HG3.out.fr0 hf4)
      have HR4 := Lib.hid (HR3.out.fr0 hf4)
      have Hf4 := Lib.hid (Hf3.out.trans0 hf4)
      clear hf4
      go_wp2_with fail
      go_roundw
      case rel => exact ⟨k + 1, M', by omega, by go_num, HG4.out, HR4.out, HI3.out, by omega, Hf4.out⟩
      case measure => simp [intOf]; omega
    · obtain rfl : k = calls.length := by omega
      go_wp2_with fail
      refine (works_any _).mono ?_
      rintro e w9 ⟨rfl, hf9⟩
      have HF9 := Lib.hid (HFw.out.trans0 hf9)
      clear hf9
      go_wp2_with fail
      go_ret
      exact ⟨rfl, HF9.out⟩
theorem aplays_any (hcs : CallsAt w cv calls) :
    Calls Try.prog 4 #[c.val, cv] w fun e w' => e = .returned (.bool true) ∧ Fr w w' Nil := by
  by_cases hl : calls.length ≤ 80
  · cases hm : c.may with
    | false => exact aplays_no c cv calls w hcs hm hl
    | true => exact aplays_main c cv calls w hcs hm hl
  · exact aplays_long c cv calls w hcs (by omega)
end
end Go.Proofs.Ytplebgcgoigigaa
