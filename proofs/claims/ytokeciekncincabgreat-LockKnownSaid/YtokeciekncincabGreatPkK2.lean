/-
  The program's table of locks where there is none: each call at nil.
  No condition.
  What LockKnown asks, as lists, and as it lies.
  No condition.
  The law LockPlays: any row of calls is answered as the document says.
  No condition.
-/
import Derived.Test.YtokeciekncincabGreatPkC28
import Derived.BigQuiet
import Derived.Deep.QuietTactic
import Derived.Test.YtokeciekncincabGreatPkC30
import Derived.Test.YtokeciekncincabGreatPkC10
import Derived.Test.YtokeciekncincabGreatPkC45
namespace Go.Proofs.YtokeciekncincabGreat
open Go Go.RowKit Go.Maps

abbrev nilp : Value := .pointer none
abbrev nils : Value := .slice none 0 0
section
variable (who : Int) (s : Spot) (m : Int) (w : World)
set_option maxRecDepth 100000
theorem nil_ask : Calls Tryz.prog 10 #[nilp, .int .i64 who, spV s, .int .u8 m] w fun e w' => e = .returned (.tuple #[.bool false, .int .i64 1]) ∧ Fr w w' Nil := by
  have hf : Fr w (w.alloc (.cells #[.int .i64 s.1, .bool s.2.1, .int .i64 s.2.2] 30)) Nil := (Fr.refl w Nil).alloc _
  go_enter Tryz.func10, Tryz.ntmps10
  go_wp2_with fail
  go_ret2
  exact ⟨by first | rfl | trivial, hf⟩
theorem nil_free : Calls Tryz.prog 12 #[nilp, .int .i64 who, spV s] w fun e w' => e = .returned (.tuple #[nils, .int .i64 1]) ∧ Fr w w' Nil := by
  have hf : Fr w (w.alloc (.cells #[.int .i64 s.1, .bool s.2.1, .int .i64 s.2.2] 30)) Nil := (Fr.refl w Nil).alloc _
  go_enter Tryz.func12, Tryz.ntmps12
  go_wp2_with fail
  go_ret2
  exact ⟨by first | rfl | trivial, hf⟩
theorem nil_cancel : Calls Tryz.prog 13 #[nilp, .int .i64 who] w fun e w' => e = .returned (.tuple #[nils, .int .i64 1]) ∧ Fr w w' Nil := by
  have hf : Fr w w Nil := Fr.refl w Nil
  go_enter Tryz.func13, Tryz.ntmps13
  go_wp2_with fail
  go_ret2
  exact ⟨by first | rfl | trivial, hf⟩
theorem nil_waits : Calls Tryz.prog 14 #[nilp, .int .i64 who] w fun e w' => e = .returned (.tuple #[spV (0, false, 0), .int .u8 0, .bool false]) ∧ Fr w w' Nil := by
  obtain ⟨wx, hwx⟩ : ∃ wx, (w.alloc (.cells #[.int .i64 who] 2)).alloc (.cells #[.int .i64 0, .bool false, .int .i64 0] 30) = wx := ⟨_, rfl⟩
  have hf : Fr w wx Nil := by rw [← hwx]; exact ((Fr.refl w Nil).alloc _).alloc _
  have hb2 : Bk wx (w.heap.size + 1) 30 [.int .i64 0, .bool false, .int .i64 0] := by
    rw [← hwx]
    have := Bk.new (w.alloc (.cells #[.int .i64 who] 2)) 30 #[.int .i64 0, .bool false, .int .i64 0]
    rwa [World.size_alloc] at this
  have t0 : wx.cell? ⟨w.heap.size + 1, 0, none⟩ = some (.int .i64 0) := hb2.cell 0
  have t1 : wx.cell? ⟨w.heap.size + 1, 1, none⟩ = some (.bool false) := hb2.cell 1
  have t2 : wx.cell? ⟨w.heap.size + 1, 2, none⟩ = some (.int .i64 0) := hb2.cell 2
  have HW := Lib.hid hwx
  clear hwx hb2
  go_enter Tryz.func14, Tryz.ntmps14
  go_wp2_with fail
  try rw [HW.out]
  refine bodyPost_ret (by simp [results, Tryz.results14, go_sem, t0, t1, t2]; try rfl) rfl ?_
  exact ⟨rfl, hf⟩
theorem nil_leave : Calls Tryz.prog 15 #[nilp, .int .i64 who] w fun e w' => e = .returned nils ∧ Fr w w' Nil := by
  have hf : Fr w w Nil := Fr.refl w Nil
  go_enter Tryz.func15, Tryz.ntmps15
  go_wp2_with fail
  go_ret
  exact ⟨by first | rfl | trivial, hf⟩
theorem nil_held : Calls Tryz.prog 16 #[nilp, .int .i64 who, spV s] w fun e w' => e = .returned (.int .u8 0) ∧ Fr w w' Nil := by
  have hf : Fr w (w.alloc (.cells #[.int .i64 s.1, .bool s.2.1, .int .i64 s.2.2] 30)) Nil := (Fr.refl w Nil).alloc _
  go_enter Tryz.func16, Tryz.ntmps16
  go_wp2_with fail
  go_quiet (fail)
  rename_i nq
  have hf2 := hf.drewN nq
  go_wp2_with fail
  go_ret
  exact ⟨by first | rfl | trivial, hf2⟩
theorem nil_holders : Calls Tryz.prog 17 #[nilp, spV s] w fun e w' => e = .returned nils ∧ Fr w w' Nil := by
  have hf : Fr w (w.alloc (.cells #[.int .i64 s.1, .bool s.2.1, .int .i64 s.2.2] 30)) Nil := (Fr.refl w Nil).alloc _
  go_enter Tryz.func17, Tryz.ntmps17
  go_wp2_with fail
  go_quiet (fail)
  rename_i nq
  have hf2 := hf.drewN nq
  go_wp2_with fail
  go_ret
  exact ⟨by first | rfl | trivial, hf2⟩
theorem nil_queue : Calls Tryz.prog 18 #[nilp, spV s] w fun e w' => e = .returned nils ∧ Fr w w' Nil := by
  have hf : Fr w (w.alloc (.cells #[.int .i64 s.1, .bool s.2.1, .int .i64 s.2.2] 30)) Nil := (Fr.refl w Nil).alloc _
  go_enter Tryz.func18, Tryz.ntmps18
  go_wp2_with fail
  go_quiet (fail)
  rename_i nq
  have hf2 := hf.drewN nq
  go_wp2_with fail
  go_ret
  exact ⟨by first | rfl | trivial, hf2⟩
theorem nil_spots : Calls Tryz.prog 19 #[nilp, .int .i64 who] w fun e w' => e = .returned nils ∧ Fr w w' Nil := by
  have hf : Fr w w Nil := Fr.refl w Nil
  go_enter Tryz.func19, Tryz.ntmps19
  go_wp2_with fail
  go_ret
  exact ⟨by first | rfl | trivial, hf⟩
theorem nil_used : Calls Tryz.prog 20 #[nilp] w fun e w' => e = .returned (.int .i64 0) ∧ Fr w w' Nil := by
  have hf : Fr w w Nil := Fr.refl w Nil
  go_enter Tryz.func20, Tryz.ntmps20
  go_wp2_with fail
  go_ret
  exact ⟨by first | rfl | trivial, hf⟩
theorem nil_for : Calls Tryz.prog 21 #[nilp, .int .i64 who] w fun e w' => e = .returned nils ∧ Fr w w' Nil := by
  have cW := nil_waits who w
  go_enter Tryz.func21, Tryz.ntmps21
  go_wp2_with fail
  refine cW.mono ?_
  rintro e w1 ⟨rfl, hf1⟩
  have hf : Fr w (w1.alloc (.cells #[.int .i64 0, .bool false, .int .i64 0] 30)) Nil := hf1.alloc _
  go_wp2_with fail
  go_ret
  exact ⟨by first | rfl | trivial, hf⟩
end
end Go.Proofs.YtokeciekncincabGreat
namespace Go.Proofs.YtokeciekncincabGreat
open Go Go.RowKit

def badK : List CallK :=
  [⟨0, 0, (0, true, 1), 0, by decide, by decide, by decide, by decide⟩,
   ⟨0, 0, (0, true, 1), 6, by decide, by decide, by decide, by decide⟩,
   ⟨0, 0, (0, false, 1), 3, by decide, by decide, by decide, by decide⟩,
   ⟨0, 0, ((-1), false, 0), 3, by decide, by decide, by decide, by decide⟩,
   ⟨6, 0, (0, true, 1), 0, by decide, by decide, by decide, by decide⟩,
   ⟨7, 0, (0, false, 0), 0, by decide, by decide, by decide, by decide⟩,
   ⟨8, 0, (0, false, 0), 0, by decide, by decide, by decide, by decide⟩]
def allK : List CallK :=
  [⟨0, 1, (0, false, 0), 1, by decide, by decide, by decide, by decide⟩,
   ⟨0, 2, (0, false, 0), 2, by decide, by decide, by decide, by decide⟩,
   ⟨0, 3, (0, false, 0), 3, by decide, by decide, by decide, by decide⟩,
   ⟨0, 1, (0, false, 0), 4, by decide, by decide, by decide, by decide⟩,
   ⟨0, 4, (0, false, 0), 1, by decide, by decide, by decide, by decide⟩,
   ⟨0, 2, (0, false, 0), 5, by decide, by decide, by decide, by decide⟩,
   ⟨6, 2, (0, false, 0), 0, by decide, by decide, by decide, by decide⟩,
   ⟨7, 2, (0, false, 0), 0, by decide, by decide, by decide, by decide⟩,
   ⟨0, 5, (0, false, 0), 5, by decide, by decide, by decide, by decide⟩,
   ⟨0, 5, (0, false, 0), 1, by decide, by decide, by decide, by decide⟩,
   ⟨8, 2, (0, false, 0), 0, by decide, by decide, by decide, by decide⟩,
   ⟨7, 5, (0, false, 0), 0, by decide, by decide, by decide, by decide⟩,
   ⟨9, 1, (0, false, 0), 0, by decide, by decide, by decide, by decide⟩,
   ⟨0, 3, (0, true, 7), 5, by decide, by decide, by decide, by decide⟩,
   ⟨0, 1, (0, true, 7), 3, by decide, by decide, by decide, by decide⟩,
   ⟨8, 3, (0, false, 0), 0, by decide, by decide, by decide, by decide⟩,
   ⟨8, 1, (0, false, 0), 0, by decide, by decide, by decide, by decide⟩,
   ⟨8, 4, (0, false, 0), 0, by decide, by decide, by decide, by decide⟩]
def spK : List Spot := [(0, false, 0), (0, true, (-5)), (0, true, 0), (0, true, 5), (1, false, 0), (1, true, 0)]
theorem kcalls_drop {w : World} {g : Nat} {e : TypeId} {l : List CallK} (h : Bk w g e (l.flatMap CallK.vals)) (hl : l.length ≤ 9223372036854775807) (k : Nat) (hk : k ≤ l.length) : KCallsAt w (.slice (some ⟨g, k * 6, none⟩) (l.length - k) (l.length - k)) (l.drop k) := by
  have h1 := sl_of (w := w) (f := CallK.vals) (n := 6) (b := g) (off := k * 6) (cap := l.length - k) (fun _ => rfl) (by decide) (l := l.drop k) fun i t ht j u hu => by
    rw [List.getElem?_drop] at ht
    have hj := (List.getElem?_eq_some_iff.1 hu).1
    have h2 := flat_get (f := CallK.vals) (n := 6) (fun _ => rfl) ht j hj
    rw [show k * 6 + i * 6 + j = (k + i) * 6 + j by rw [Nat.add_mul], h.cell, h2]
    exact hu
  rw [List.length_drop] at h1
  refine ⟨?_, fun a n c e => by cases e; exact Nat.le_refl _, by rw [List.length_drop]; omega⟩
  rw [List.length_drop]
  exact h1
theorem kcalls_all {w : World} {g : Nat} {e : TypeId} {l : List CallK} (h : Bk w g e (l.flatMap CallK.vals)) (hl : l.length ≤ 9223372036854775807) : KCallsAt w (.slice (some ⟨g, 0, none⟩) l.length l.length) l := by
  have h1 := kcalls_drop h hl 0 (Nat.zero_le _)
  rw [Nat.zero_mul, Nat.sub_zero, List.drop_zero] at h1
  exact h1
theorem call_cells {w : World} {g : Nat} {e : TypeId} {l : List CallK} (h : Bk w g e (l.flatMap CallK.vals)) {i : Nat} {t : CallK} (ht : l[i]? = some t) : ∀ j u, t.vals[j]? = some u → w.cell? ⟨g, i * 6 + j, none⟩ = some u := fun j u hu => by
  have hj := (List.getElem?_eq_some_iff.1 hu).1
  rw [h.cell, flat_get (f := CallK.vals) (n := 6) (fun _ => rfl) ht j hj]
  exact hu
theorem spot_cells {w : World} {g : Nat} {e : TypeId} {l : List Spot} (h : Bk w g e (l.flatMap sp3)) {i : Nat} {t : Spot} (ht : l[i]? = some t) : ∀ j u, (sp3 t)[j]? = some u → w.cell? ⟨g, i * 3 + j, none⟩ = some u := fun j u hu => by
  have hj := (List.getElem?_eq_some_iff.1 hu).1
  rw [h.cell, flat_get (f := sp3) (n := 3) (fun _ => rfl) ht j hj]
  exact hu
theorem spK_less : ∀ i, i < 6 → ∀ k, k < 6 → ∀ a c, spK[i]? = some a → spK[k]? = some c → lessS a c = decide (i < k) := by
  have h : ∀ i ∈ List.range 6, ∀ k ∈ List.range 6, (match spK[i]?, spK[k]? with | some a, some c => lessS a c == decide (i < k) | _, _ => true) = true := by decide
  intro i hi k hk a c ha hc
  have h1 := h i (List.mem_range.2 hi) k (List.mem_range.2 hk)
  rw [ha, hc] at h1
  exact eq_of_beq h1
theorem badK_len : badK.length = 7 := rfl
theorem allK_len : allK.length = 18 := rfl
theorem spK_len : spK.length = 6 := rfl
set_option maxRecDepth 100000 in
theorem badK_cells : badK.flatMap CallK.vals = [.int .u8 0, .int .i64 0, .int .i64 0, .bool true, .int .i64 1, .int .u8 0, .int .u8 0, .int .i64 0, .int .i64 0, .bool true, .int .i64 1, .int .u8 6, .int .u8 0, .int .i64 0, .int .i64 0, .bool false, .int .i64 1, .int .u8 3, .int .u8 0, .int .i64 0, .int .i64 (-1), .bool false, .int .i64 0, .int .u8 3, .int .u8 6, .int .i64 0, .int .i64 0, .bool true, .int .i64 1, .int .u8 0, .int .u8 7, .int .i64 0, .int .i64 0, .bool false, .int .i64 0, .int .u8 0, .int .u8 8, .int .i64 0, .int .i64 0, .bool false, .int .i64 0, .int .u8 0] := rfl
set_option maxRecDepth 100000 in
theorem allK_cells : allK.flatMap CallK.vals = [.int .u8 0, .int .i64 1, .int .i64 0, .bool false, .int .i64 0, .int .u8 1, .int .u8 0, .int .i64 2, .int .i64 0, .bool false, .int .i64 0, .int .u8 2, .int .u8 0, .int .i64 3, .int .i64 0, .bool false, .int .i64 0, .int .u8 3, .int .u8 0, .int .i64 1, .int .i64 0, .bool false, .int .i64 0, .int .u8 4, .int .u8 0, .int .i64 4, .int .i64 0, .bool false, .int .i64 0, .int .u8 1, .int .u8 0, .int .i64 2, .int .i64 0, .bool false, .int .i64 0, .int .u8 5, .int .u8 6, .int .i64 2, .int .i64 0, .bool false, .int .i64 0, .int .u8 0, .int .u8 7, .int .i64 2, .int .i64 0, .bool false, .int .i64 0, .int .u8 0, .int .u8 0, .int .i64 5, .int .i64 0, .bool false, .int .i64 0, .int .u8 5, .int .u8 0, .int .i64 5, .int .i64 0, .bool false, .int .i64 0, .int .u8 1, .int .u8 8, .int .i64 2, .int .i64 0, .bool false, .int .i64 0, .int .u8 0, .int .u8 7, .int .i64 5, .int .i64 0, .bool false, .int .i64 0, .int .u8 0, .int .u8 9, .int .i64 1, .int .i64 0, .bool false, .int .i64 0, .int .u8 0, .int .u8 0, .int .i64 3, .int .i64 0, .bool true, .int .i64 7, .int .u8 5, .int .u8 0, .int .i64 1, .int .i64 0, .bool true, .int .i64 7, .int .u8 3, .int .u8 8, .int .i64 3, .int .i64 0, .bool false, .int .i64 0, .int .u8 0, .int .u8 8, .int .i64 1, .int .i64 0, .bool false, .int .i64 0, .int .u8 0, .int .u8 8, .int .i64 4, .int .i64 0, .bool false, .int .i64 0, .int .u8 0] := rfl
set_option maxRecDepth 100000 in
theorem spK_cells : spK.flatMap sp3 = [.int .i64 0, .bool false, .int .i64 0, .int .i64 0, .bool true, .int .i64 (-5), .int .i64 0, .bool true, .int .i64 0, .int .i64 0, .bool true, .int .i64 5, .int .i64 1, .bool false, .int .i64 0, .int .i64 1, .bool true, .int .i64 0] := rfl
end Go.Proofs.YtokeciekncincabGreat
namespace Go.Proofs.YtokeciekncincabGreat
open Go Go.RowKit Go.Maps

section
variable (most : Int) (cv : Value) (l : List CallK) (w : World)
set_option maxRecDepth 100000 in
set_option maxHeartbeats 8000000 in
theorem lplays_main (hc : KCallsAt w cv l) (hl : l.length ≤ 60) :
    Calls Tryz.prog 3 #[.int .i64 most, cv] w fun e w' => e = .returned (.bool true) ∧ Fr w w' Nil := by
  obtain ⟨ca, cc, rfl, hcc⟩ := hc.shape
  have cN := new_T most w
  have hcl60 : ¬ (60 : Int) < (l.length : Int) := by omega
  have HC := Lib.hid hc
  clear hc
  go_enter Tryz.func3, Tryz.ntmps3
  go_wp2_with fail
  refine cN.mono ?_
  rintro e w1 ⟨lb, S1, rfl, hT, hT2, hf1⟩
  have cM := rnew_any most w1
  clear cN
  go_wp2_with fail
  refine cM.mono ?_
  rintro e w2 ⟨mb, S2, rfl, hD, hD2, hf2⟩
  have HU1 := Lib.hid (two_new hT hT2 hD hD2 hf1 hf2)
  have HF1 := Lib.hid (hf1.trans0 hf2)
  clear cM hT hT2 hD hD2 hf1 hf2
  go_wp2_with fail
  go_loopw [7] (fun vi wr => ∃ (i : Nat) (D : LkS), vi = .int .i64 (i : Int) ∧ i ≤ l.length ∧ Hid (Two wr lb mb D D i (3 + 4 * i) (Low w.heap.size)) ∧ Hid (Fr w wr Nil)) (fun vi _ => l.length - (intOf vi).toNat)
  case atStart => exact ⟨0, _, rfl, by omega, HU1.out, HF1.out⟩
  case round =>
    clear HU1 HF1
    obtain ⟨i, D0, rfl, hi, HU, HFR⟩ := hrel
    obtain ⟨wo, rfl⟩ : ∃ wo : World, wo = wr := ⟨_, rfl⟩
    by_cases hlt : i < l.length
    · have hil : (i : Int) < (l.length : Int) := by omega
      obtain ⟨b, off, cap', hvv, hcl⟩ := HC.out.form (by omega)
      simp only [Value.slice.injEq, true_and] at hvv
      obtain ⟨rfl, rfl⟩ := hvv
      obtain ⟨t, ht⟩ : ∃ t, l[i]? = some t := ⟨_, List.getElem?_eq_getElem hlt⟩
      have hcw : ∀ j u, t.vals[j]? = some u → wo.cell? ⟨b, off + i * 6 + j, none⟩ = some u := fun j u hu => HFR.out.cell (hcl i t ht j u hu) (fun h => h)
      have p0 := hcw 0 _ rfl
      have p1 := hcw 1 _ rfl
      have p2 := hcw 2 _ rfl
      have p3 := hcw 3 _ rfl
      have p4 := hcw 4 _ rfl
      have p5 := hcw 5 _ rfl
      simp only [Nat.add_zero] at p0
      have cD := ldoes_any (kc := t.kind) (m := t.m) HU.out HFR.out.size (by omega) (by omega) t.okw t.oks t.okm.1
      obtain ⟨D, hDD⟩ : ∃ D, doF (t.kind.tmod 10) D0 t.who t.s t.m = D := ⟨_, rfl⟩
      rw [hDD] at cD
      clear ht hcw hcl hDD HU
      obtain ⟨tkd, who, s, m, okk, okw, oks, okm⟩ := t
      dsimp only at p0 p1 p2 p3 p4 p5 cD
      clear okk okw oks okm
      go_wp2_with fail
      refine cD.mono ?_
      rintro e w3 ⟨rfl, hU, hf⟩
      have HU := Lib.hid hU
      have hF3 : Fr w w3 Nil := low_back HFR.out hf fun k h => h
      have HF3 := Lib.hid hF3
      have cT := ltells_any hU (by omega) (HC.out.fr0 hF3) (by omega)
      clear cD hU hf p0 p1 p2 p3 p4 p5 HFR hF3
      go_wp2_with fail
      refine cT.mono ?_
      rintro e w4 ⟨rfl, hf4⟩
      have HU4 := Lib.hid (HU.out.fr0 hf4)
      have HF4 := Lib.hid (HF3.out.trans0 hf4)
      clear cT hf4
      go_wp2_with fail
      go_roundw
      case rel => exact ⟨i + 1, D, by go_num, by omega, HU4.out, HF4⟩
      case measure => simp [intOf]; omega
    · obtain rfl : i = l.length := by omega
      have cW := works_any wo
      go_wp2_with fail
      refine cW.mono ?_
      rintro e w9 ⟨rfl, hf9⟩
      have HF9 := Lib.hid (HFR.out.trans0 hf9)
      clear cW hf9
      go_wp2_with fail
      go_ret
      exact ⟨rfl, HF9.out⟩
theorem lplays_any (hc : KCallsAt w cv l) :
    Calls Tryz.prog 3 #[.int .i64 most, cv] w fun e w' => e = .returned (.bool true) ∧ Fr w w' Nil := by
  by_cases hl : l.length ≤ 60
  · exact lplays_main most cv l w hc hl
  · obtain ⟨ca, cc, rfl, hcc⟩ := hc.shape
    have hb : (60 : Int) < (l.length : Int) := by omega
    have cW := works_any w
    go_enter Tryz.func3, Tryz.ntmps3
    go_wp2_with fail
    refine cW.mono ?_
    rintro e w9 ⟨rfl, hf9⟩
    have HF9 := Lib.hid hf9
    clear cW hf9
    go_wp2_with fail
    go_ret
    exact ⟨rfl, HF9.out⟩
end
end Go.Proofs.YtokeciekncincabGreat
