/-
  The law LockPasses: who holds a spot alone upgrades at once, past all that wait.
  No condition.
-/
import Derived.Test.YtecffdgnmnpmbaaPkP1
import Derived.Deep.CutBlock
namespace Go.Proofs.Ytecffdgnmnpmbaa
open Go Go.RowKit Go.Maps

set_option maxRecDepth 100000 in
set_option maxHeartbeats 8000000 in
theorem lpass_1a (c : Int) (w : World) (q0 : Nat) (hq : c.tmod 20 = (q0 : Int)) (hq2 : q0 < 20) :
    Calls Try.prog 3 #[.int .u8 c, .bool false, .bool false] w fun e w' => e = .returned (.bool true) ∧ Fr w w' Nil := by
  have cN := new_U 100 w
  rw [show (max 0 100 : Int) = 100 from rfl] at cN
  obtain ⟨kk, hkk⟩ : ∃ kk : Nat, q0 + 1 = kk := ⟨_, rfl⟩
  have hk1 : (1 : Int) + (q0 : Int) = (kk : Int) := by omega
  have hk21 : kk < 21 := by omega
  have hq3 : (0 : Int) ≤ (q0 : Int) := by omega
  have hq4 : (q0 : Int) < 20 := by omega
  go_enter Try.func3, Try.ntmps3
  go_wp2_with fail
  refine cN.mono ?_
  rintro e w1 ⟨lb, rfl, hU, hf1⟩
  go_upto_region 7 with fail
  obtain ⟨w2, hw2⟩ : ∃ w2, w1.alloc (.cells #[.int .i64 3, .bool false, .int .i64 0] 26) = w2 := ⟨_, rfl⟩
  rw [hw2]
  have hf2 : Fr w1 w2 Nil := by rw [← hw2]; exact (Fr.refl w1 Nil).alloc _
  have HB : Hid (Bk w2 w1.heap.size 26 [.int .i64 3, .bool false, .int .i64 0]) := Lib.hid (by rw [← hw2]; exact Bk.new w1 _ _)
  have HU : Hid (LkU w2 lb ⟨100, [], []⟩ 0 3 (AtA w.heap.size w1.heap.size)) := (hU.not fun k h1 h2 => ⟨h1, by omega⟩).fr0 hf2
  have HF := Lib.hid (hf1.trans0 hf2)
  clear cN hU hf1 hf2 hw2
  have cA := HU.out.ask (fun k hk => ⟨by show w.heap.size ≤ k; have := HF.out.size; omega, by have := HB.out.lt; omega⟩) 1 ps3 1 (by omega) (by omega) (by decide) ps_wf (by decide)
  rw [show askL ⟨100, [], []⟩ 1 ps3 1 = ((true, 0), ⟨100, psH 1 false, []⟩) by kernel_rfl] at cA
  have r0 : w2.cell? ⟨w1.heap.size, 0, none⟩ = some (.int .i64 3) := HB.out.cell 0
  have r1 : w2.cell? ⟨w1.heap.size, 1, none⟩ = some (.bool false) := HB.out.cell 1
  have r2 : w2.cell? ⟨w1.heap.size, 2, none⟩ = some (.int .i64 0) := HB.out.cell 2
  go_wp2_with fail
  refine cA.mono ?_
  rintro e w3 ⟨rfl, hU, hf⟩
  have HUx := Lib.hid hU
  have HFx : Hid (Fr w w3 Nil) := low_back HF.out hf fun k h => h.1
  have HBx := Lib.hid (HB.out.fr hf fun h => h.2 rfl)
  clear HU HF HB cA hU hf r0 r1 r2
  have HU := HUx
  have HF := HFx
  have HB := HBx
  clear HUx HFx HBx
  go_wp2_with fail
  go_loopw [14] (fun vi wr => ∃ i : Nat, vi = .int .i64 (i : Int) ∧ i ≤ kk ∧ Hid (LkU wr lb ⟨100, (psH 1 false), psW i 0⟩ (1 + i) (7 + 4 * i) (AtA w.heap.size w1.heap.size)) ∧ Hid (Fr w wr Nil) ∧ Hid (Bk wr w1.heap.size 26 [.int .i64 3, .bool false, .int .i64 0])) (fun vi _ => kk - (intOf vi).toNat)
  case atStart => exact ⟨0, by go_num, by omega, HU.out, HF.out, HB.out⟩
  case round =>
    clear HU HF HB
    obtain ⟨i, rfl, hi, HU, HF, HB⟩ := hrel
    obtain ⟨w4, rfl⟩ : ∃ wo : World, wo = wr := ⟨_, rfl⟩
    by_cases hlt : i < kk
    · have hil : (i : Int) < (kk : Int) := by omega
      have cA := HU.out.ask (fun k hk => ⟨by show w.heap.size ≤ k; have := HF.out.size; omega, by have := HB.out.lt; omega⟩) (10 + (i : Int)) ps3 5 (by omega) (by omega) (i64_wf (by omega) (by omega)) ps_wf (by decide)
      rw [chkA_ok (.inl rfl) false (show i < 20 by omega)] at cA
      have r0 : w4.cell? ⟨w1.heap.size, 0, none⟩ = some (.int .i64 3) := HB.out.cell 0
      have r1 : w4.cell? ⟨w1.heap.size, 1, none⟩ = some (.bool false) := HB.out.cell 1
      have r2 : w4.cell? ⟨w1.heap.size, 2, none⟩ = some (.int .i64 0) := HB.out.cell 2
      go_wp2_with fail
      refine cA.mono ?_
      rintro e w5 ⟨rfl, hU, hf⟩
      have HUx := Lib.hid hU
      have HFx : Hid (Fr w w5 Nil) := low_back HF.out hf fun k h => h.1
      have HBx := Lib.hid (HB.out.fr hf fun h => h.2 rfl)
      clear HU HF HB cA hU hf r0 r1 r2
      have HU := HUx
      have HF := HFx
      have HB := HBx
      clear HUx HFx HBx
      go_wp2_with fail
      go_roundw
      case rel => exact ⟨i + 1, by go_num, by omega, HU.out, HF.out, HB.out⟩
      case measure => simp [intOf]; omega
    · obtain rfl : i = kk := by omega
      have cA := HU.out.ask (fun k hk => ⟨by show w.heap.size ≤ k; have := HF.out.size; omega, by have := HB.out.lt; omega⟩) 1 ps3 5 (by omega) (by omega) (by decide) ps_wf (by decide)
      rw [chkB_ok (.inl rfl) false (show i < 21 by omega), if_neg (by decide)] at cA
      have r0 : w4.cell? ⟨w1.heap.size, 0, none⟩ = some (.int .i64 3) := HB.out.cell 0
      have r1 : w4.cell? ⟨w1.heap.size, 1, none⟩ = some (.bool false) := HB.out.cell 1
      have r2 : w4.cell? ⟨w1.heap.size, 2, none⟩ = some (.int .i64 0) := HB.out.cell 2
      go_wp2_with fail
      refine cA.mono ?_
      rintro e w5 ⟨rfl, hU, hf⟩
      have HUx := Lib.hid hU
      have HFx : Hid (Fr w w5 Nil) := low_back HF.out hf fun k h => h.1
      have HBx := Lib.hid (HB.out.fr hf fun h => h.2 rfl)
      clear HU HF HB cA hU hf r0 r1 r2
      have HU := HUx
      have HF := HFx
      have HB := HBx
      clear HUx HFx HBx
      have cT := HU.out.held 1 ps3 (by decide) ps_wf
      rw [show heldL (LkS.mk 100 [⟨ps3, 1, 5⟩] (psW i 0)).H 1 ps3 = 5 from by kernel_rfl] at cT
      have r0 : w5.cell? ⟨w1.heap.size, 0, none⟩ = some (.int .i64 3) := HB.out.cell 0
      have r1 : w5.cell? ⟨w1.heap.size, 1, none⟩ = some (.bool false) := HB.out.cell 1
      have r2 : w5.cell? ⟨w1.heap.size, 2, none⟩ = some (.int .i64 0) := HB.out.cell 2
      go_wp2_with fail
      refine cT.mono ?_
      rintro e w6 ⟨rfl, hf⟩
      have HUx := Lib.hid (HU.out.fr0 hf)
      have HFx := Lib.hid (HF.out.trans0 hf)
      have HBx := Lib.hid (HB.out.fr hf fun h => h)
      clear HU HF HB cT hf r0 r1 r2
      have HU := HUx
      have HF := HFx
      have HB := HBx
      clear HUx HFx HBx
      have cT := HU.out.queue ps3 (by omega) ps_wf
      rw [show prs (queueL (LkS.mk 100 [⟨ps3, 1, 5⟩] (psW i 0)).H (LkS.mk 100 [⟨ps3, 1, 5⟩] (psW i 0)).W ps3) = prs (psW i 0) from (chkD_ok (show i < 21 by omega) (show 0 < i by omega)).2] at cT
      have r0 : w6.cell? ⟨w1.heap.size, 0, none⟩ = some (.int .i64 3) := HB.out.cell 0
      have r1 : w6.cell? ⟨w1.heap.size, 1, none⟩ = some (.bool false) := HB.out.cell 1
      have r2 : w6.cell? ⟨w1.heap.size, 2, none⟩ = some (.int .i64 0) := HB.out.cell 2
      go_wp2_with fail
      refine cT.mono ?_
      rintro e w7 ⟨v, rfl, h1, h2, hf⟩
      have hln := psW_len i
      obtain ⟨qa2, qc2, rfl⟩ := h1.shape
      rw [hln]
      clear h1 h2 hln
      have HUx := Lib.hid (HU.out.fr0 hf)
      have HFx := Lib.hid (HF.out.trans0 hf)
      have HBx := Lib.hid (HB.out.fr hf fun h => h)
      clear HU HF HB cT hf r0 r1 r2
      have HU := HUx
      have HF := HFx
      have HB := HBx
      clear HUx HFx HBx
      go_wp2_with fail
      go_loopw [20, 21] (fun vi _ wr => ∃ j : Nat, vi = .int .i64 (j : Int) ∧ j ≤ i ∧ Hid (LkU wr lb ⟨100, [⟨ps3, psLast j, 5⟩], psW i j⟩ 30 200 (AtA w.heap.size w1.heap.size)) ∧ Hid (Fr w wr Nil) ∧ Hid (Bk wr w1.heap.size 26 [.int .i64 3, .bool false, .int .i64 0])) (fun vi _ _ => i - (intOf vi).toNat)
      case atStart => exact ⟨0, by go_num, by omega, HU.out.more (by omega) (by omega), HF.out, HB.out⟩
      case round =>
        clear HU HF HB
        obtain ⟨j, rfl, hj, HU, HF, HB⟩ := hrel
        obtain ⟨w8, rfl⟩ : ∃ wo : World, wo = wr := ⟨_, rfl⟩
        by_cases hlj : j < i
        · have hjl : (j : Int) < (i : Int) := by omega
          have HD := Lib.hid (chkD_ok (show i < 21 by omega) hlj).1
          have hj0 : (0 : Int) ≤ (j : Int) := by omega
          by_cases hz : j = 0
          · have hz1 : ((j : Int) == 0) = true := by rw [beq_iff_eq]; omega
            subst hz
            have HD3 : Hid (leaveL ⟨100, [⟨ps3, 1, 5⟩], psW i 0⟩ 1 = ([10], ⟨100, [⟨ps3, 10, 5⟩], psW i 1⟩)) := HD
            have HUz : Hid (LkU w8 lb ⟨100, [⟨ps3, 1, 5⟩], psW i 0⟩ 30 200 (AtA w.heap.size w1.heap.size)) := HU
            clear HU HD
            have HU := HUz
            clear HUz
            have cL := HU.out.leave 1 (by omega) (by decide)
            rw [HD3.out] at cL
            go_wp2_with fail
            refine cL.mono ?_
            rintro e w9 ⟨v, rfl, h1, hU, hf⟩
            have HU2 := Lib.hid hU
            have HF2 : Hid (Fr w w9 Nil) := low_back HF.out hf fun k h => h.1
            have HB2 := Lib.hid (HB.out.fr hf fun h => h.2 rfl)
            have hfl := (Fr.refl w9 Nil).alloc (.cells #[.int .i64 10] 2)
            have cS := sameInts_any v (.slice (some ⟨w9.heap.size, 0, none⟩) 1 1) _ [10] _ (h1.at.fr hfl fun _ _ h => h) (lit1 w9 10) (by simp) (by simp)
            simp only [decide_true] at cS
            obtain ⟨va, vc, rfl⟩ := h1.shape
            have HFL := Lib.hid hfl
            clear HU HF HB cL h1 hU hf hfl
            go_wp2_with fail
            refine cS.mono ?_
            rintro e w10 ⟨rfl, hf⟩
            have HU := Lib.hid ((HU2.out.fr0 HFL.out).fr0 hf)
            have HF := Lib.hid ((HF2.out.trans0 HFL.out).trans0 hf)
            have HB := Lib.hid ((HB2.out.fr HFL.out fun h => h).fr hf fun h => h)
            clear HU2 HF2 HB2 HFL cS hf
            have cT := HU.out.held 10 ps3 (by decide) ps_wf
            rw [show heldL (LkS.mk 100 [⟨ps3, 10, 5⟩] (psW i 1)).H 10 ps3 = 5 from by kernel_rfl] at cT
            have r0 : w10.cell? ⟨w1.heap.size, 0, none⟩ = some (.int .i64 3) := HB.out.cell 0
            have r1 : w10.cell? ⟨w1.heap.size, 1, none⟩ = some (.bool false) := HB.out.cell 1
            have r2 : w10.cell? ⟨w1.heap.size, 2, none⟩ = some (.int .i64 0) := HB.out.cell 2
            go_wp2_with fail
            refine cT.mono ?_
            rintro e w11 ⟨rfl, hf⟩
            have HUx := Lib.hid (HU.out.fr0 hf)
            have HFx := Lib.hid (HF.out.trans0 hf)
            have HBx := Lib.hid (HB.out.fr hf fun h => h)
            clear HU HF HB cT hf r0 r1 r2
            have HU := HUx
            have HF := HFx
            have HB := HBx
            clear HUx HFx HBx
            go_wp2_with fail
            go_roundw
            case rel => exact ⟨1, by go_num, by omega, HU.out, HF.out, HB.out⟩
            case measure => simp [intOf]; omega
          · have hz1 : ((j : Int) == 0) = false := by rw [beq_eq_false_iff_ne]; omega
            have hlast : psLast j = (9 + (j : Int)) := by unfold psLast; rw [if_neg hz]
            have HD2 := HD.out
            rw [hlast] at HD2
            have HUy := HU.out
            rw [hlast] at HUy
            have HUz := Lib.hid HUy
            clear HU HUy hlast
            have HU := HUz
            clear HUz
            have HD3 := Lib.hid HD2
            clear HD2 HD
            have cL := HU.out.leave (9 + (j : Int)) (by omega) (i64_wf (by omega) (by omega))
            rw [HD3.out] at cL
            go_wp2_with fail
            refine cL.mono ?_
            rintro e w9 ⟨v, rfl, h1, hU, hf⟩
            have HU2 := Lib.hid hU
            have HF2 : Hid (Fr w w9 Nil) := low_back HF.out hf fun k h => h.1
            have HB2 := Lib.hid (HB.out.fr hf fun h => h.2 rfl)
            have hfl := (Fr.refl w9 Nil).alloc (.cells #[.int .i64 (10 + (j : Int))] 2)
            have cS := sameInts_any v (.slice (some ⟨w9.heap.size, 0, none⟩) 1 1) _ [(10 + (j : Int))] _ (h1.at.fr hfl fun _ _ h => h) (lit1 w9 (10 + (j : Int))) (by simp) (by simp)
            simp only [decide_true] at cS
            obtain ⟨va, vc, rfl⟩ := h1.shape
            have HFL := Lib.hid hfl
            clear HU HF HB cL h1 hU hf hfl
            go_wp2_with fail
            refine cS.mono ?_
            rintro e w10 ⟨rfl, hf⟩
            have HU := Lib.hid ((HU2.out.fr0 HFL.out).fr0 hf)
            have HF := Lib.hid ((HF2.out.trans0 HFL.out).trans0 hf)
            have HB := Lib.hid ((HB2.out.fr HFL.out fun h => h).fr hf fun h => h)
            clear HU2 HF2 HB2 HFL cS hf
            have cT := HU.out.held (10 + (j : Int)) ps3 (i64_wf (by omega) (by omega)) ps_wf
            rw [show heldL (LkS.mk 100 [⟨ps3, 10 + (j : Int), 5⟩] (psW i (j + 1))).H (10 + (j : Int)) ps3 = 5 from by simp [heldL]] at cT
            have r0 : w10.cell? ⟨w1.heap.size, 0, none⟩ = some (.int .i64 3) := HB.out.cell 0
            have r1 : w10.cell? ⟨w1.heap.size, 1, none⟩ = some (.bool false) := HB.out.cell 1
            have r2 : w10.cell? ⟨w1.heap.size, 2, none⟩ = some (.int .i64 0) := HB.out.cell 2
            go_wp2_with fail
            refine cT.mono ?_
            rintro e w11 ⟨rfl, hf⟩
            have HUx := Lib.hid (HU.out.fr0 hf)
            have HFx := Lib.hid (HF.out.trans0 hf)
            have HBx := Lib.hid (HB.out.fr hf fun h => h)
            clear HU HF HB cT hf r0 r1 r2
            have HU := HUx
            have HF := HFx
            have HB := HBx
            clear HUx HFx HBx
            go_wp2_with fail
            go_roundw
            case rel => exact ⟨j + 1, by go_num, by omega, (by rw [psLast_next]; exact HU.out), HF.out, HB.out⟩
            case measure => simp [intOf]; omega
        · obtain rfl : j = i := by omega
          go_wp2_with fail
          refine (works_any w8).mono ?_
          rintro e w9 ⟨rfl, hf9⟩
          have HF9 := Lib.hid (HF.out.trans0 hf9)
          clear hf9
          go_wp2_with fail
          go_ret
          exact ⟨rfl, HF9.out⟩
set_option maxRecDepth 100000 in
set_option maxHeartbeats 8000000 in
theorem lpass_1b (c : Int) (w : World) (q0 : Nat) (hq : c.tmod 20 = (q0 : Int)) (hq2 : q0 < 20) :
    Calls Try.prog 3 #[.int .u8 c, .bool true, .bool false] w fun e w' => e = .returned (.bool true) ∧ Fr w w' Nil := by
  have cN := new_U 100 w
  rw [show (max 0 100 : Int) = 100 from rfl] at cN
  obtain ⟨kk, hkk⟩ : ∃ kk : Nat, q0 + 1 = kk := ⟨_, rfl⟩
  have hk1 : (1 : Int) + (q0 : Int) = (kk : Int) := by omega
  have hk21 : kk < 21 := by omega
  have hq3 : (0 : Int) ≤ (q0 : Int) := by omega
  have hq4 : (q0 : Int) < 20 := by omega
  go_enter Try.func3, Try.ntmps3
  go_wp2_with fail
  refine cN.mono ?_
  rintro e w1 ⟨lb, rfl, hU, hf1⟩
  go_upto_region 7 with fail
  obtain ⟨w2, hw2⟩ : ∃ w2, w1.alloc (.cells #[.int .i64 3, .bool false, .int .i64 0] 26) = w2 := ⟨_, rfl⟩
  rw [hw2]
  have hf2 : Fr w1 w2 Nil := by rw [← hw2]; exact (Fr.refl w1 Nil).alloc _
  have HB : Hid (Bk w2 w1.heap.size 26 [.int .i64 3, .bool false, .int .i64 0]) := Lib.hid (by rw [← hw2]; exact Bk.new w1 _ _)
  have HU : Hid (LkU w2 lb ⟨100, [], []⟩ 0 3 (AtA w.heap.size w1.heap.size)) := (hU.not fun k h1 h2 => ⟨h1, by omega⟩).fr0 hf2
  have HF := Lib.hid (hf1.trans0 hf2)
  clear cN hU hf1 hf2 hw2
  have cA := HU.out.ask (fun k hk => ⟨by show w.heap.size ≤ k; have := HF.out.size; omega, by have := HB.out.lt; omega⟩) 1 ps3 1 (by omega) (by omega) (by decide) ps_wf (by decide)
  rw [show askL ⟨100, [], []⟩ 1 ps3 1 = ((true, 0), ⟨100, psH 1 false, []⟩) by kernel_rfl] at cA
  have r0 : w2.cell? ⟨w1.heap.size, 0, none⟩ = some (.int .i64 3) := HB.out.cell 0
  have r1 : w2.cell? ⟨w1.heap.size, 1, none⟩ = some (.bool false) := HB.out.cell 1
  have r2 : w2.cell? ⟨w1.heap.size, 2, none⟩ = some (.int .i64 0) := HB.out.cell 2
  go_wp2_with fail
  refine cA.mono ?_
  rintro e w3 ⟨rfl, hU, hf⟩
  have HUx := Lib.hid hU
  have HFx : Hid (Fr w w3 Nil) := low_back HF.out hf fun k h => h.1
  have HBx := Lib.hid (HB.out.fr hf fun h => h.2 rfl)
  clear HU HF HB cA hU hf r0 r1 r2
  have HU := HUx
  have HF := HFx
  have HB := HBx
  clear HUx HFx HBx
  have cA := HU.out.ask (fun k hk => ⟨by show w.heap.size ≤ k; have := HF.out.size; omega, by have := HB.out.lt; omega⟩) 2 ps3 1 (by omega) (by omega) (by decide) ps_wf (by decide)
  rw [show askL ⟨100, psH 1 false, []⟩ 2 ps3 1 = ((true, 0), ⟨100, psH 1 true, []⟩) by kernel_rfl] at cA
  have r0 : w3.cell? ⟨w1.heap.size, 0, none⟩ = some (.int .i64 3) := HB.out.cell 0
  have r1 : w3.cell? ⟨w1.heap.size, 1, none⟩ = some (.bool false) := HB.out.cell 1
  have r2 : w3.cell? ⟨w1.heap.size, 2, none⟩ = some (.int .i64 0) := HB.out.cell 2
  go_wp2_with fail
  refine cA.mono ?_
  rintro e w4 ⟨rfl, hU, hf⟩
  have HUx := Lib.hid hU
  have HFx : Hid (Fr w w4 Nil) := low_back HF.out hf fun k h => h.1
  have HBx := Lib.hid (HB.out.fr hf fun h => h.2 rfl)
  clear HU HF HB cA hU hf r0 r1 r2
  have HU := HUx
  have HF := HFx
  have HB := HBx
  clear HUx HFx HBx
  go_wp2_with fail
  go_loopw [14] (fun vi wr => ∃ i : Nat, vi = .int .i64 (i : Int) ∧ i ≤ kk ∧ Hid (LkU wr lb ⟨100, (psH 1 true), psW i 0⟩ (2 + i) (11 + 4 * i) (AtA w.heap.size w1.heap.size)) ∧ Hid (Fr w wr Nil) ∧ Hid (Bk wr w1.heap.size 26 [.int .i64 3, .bool false, .int .i64 0])) (fun vi _ => kk - (intOf vi).toNat)
  case atStart => exact ⟨0, by go_num, by omega, HU.out, HF.out, HB.out⟩
  case round =>
    clear HU HF HB
    obtain ⟨i, rfl, hi, HU, HF, HB⟩ := hrel
    obtain ⟨w5, rfl⟩ : ∃ wo : World, wo = wr := ⟨_, rfl⟩
    by_cases hlt : i < kk
    · have hil : (i : Int) < (kk : Int) := by omega
      have cA := HU.out.ask (fun k hk => ⟨by show w.heap.size ≤ k; have := HF.out.size; omega, by have := HB.out.lt; omega⟩) (10 + (i : Int)) ps3 5 (by omega) (by omega) (i64_wf (by omega) (by omega)) ps_wf (by decide)
      rw [chkA_ok (.inl rfl) true (show i < 20 by omega)] at cA
      have r0 : w5.cell? ⟨w1.heap.size, 0, none⟩ = some (.int .i64 3) := HB.out.cell 0
      have r1 : w5.cell? ⟨w1.heap.size, 1, none⟩ = some (.bool false) := HB.out.cell 1
      have r2 : w5.cell? ⟨w1.heap.size, 2, none⟩ = some (.int .i64 0) := HB.out.cell 2
      go_wp2_with fail
      refine cA.mono ?_
      rintro e w6 ⟨rfl, hU, hf⟩
      have HUx := Lib.hid hU
      have HFx : Hid (Fr w w6 Nil) := low_back HF.out hf fun k h => h.1
      have HBx := Lib.hid (HB.out.fr hf fun h => h.2 rfl)
      clear HU HF HB cA hU hf r0 r1 r2
      have HU := HUx
      have HF := HFx
      have HB := HBx
      clear HUx HFx HBx
      go_wp2_with fail
      go_roundw
      case rel => exact ⟨i + 1, by go_num, by omega, HU.out, HF.out, HB.out⟩
      case measure => simp [intOf]; omega
    · obtain rfl : i = kk := by omega
      have cA := HU.out.ask (fun k hk => ⟨by show w.heap.size ≤ k; have := HF.out.size; omega, by have := HB.out.lt; omega⟩) 1 ps3 5 (by omega) (by omega) (by decide) ps_wf (by decide)
      rw [chkB_ok (.inl rfl) true (show i < 21 by omega), if_pos rfl] at cA
      have r0 : w5.cell? ⟨w1.heap.size, 0, none⟩ = some (.int .i64 3) := HB.out.cell 0
      have r1 : w5.cell? ⟨w1.heap.size, 1, none⟩ = some (.bool false) := HB.out.cell 1
      have r2 : w5.cell? ⟨w1.heap.size, 2, none⟩ = some (.int .i64 0) := HB.out.cell 2
      go_wp2_with fail
      refine cA.mono ?_
      rintro e w6 ⟨rfl, hU, hf⟩
      have HUx := Lib.hid hU
      have HFx : Hid (Fr w w6 Nil) := low_back HF.out hf fun k h => h.1
      have HBx := Lib.hid (HB.out.fr hf fun h => h.2 rfl)
      clear HU HF HB cA hU hf r0 r1 r2
      have HU := HUx
      have HF := HFx
      have HB := HBx
      clear HUx HFx HBx
      have cT := HU.out.queue ps3 (by omega) ps_wf
      rw [show prs (queueL (LkS.mk 100 (psH 1 true) (psW i 0 ++ [⟨ps3, 1, 5⟩])).H (LkS.mk 100 (psH 1 true) (psW i 0 ++ [⟨ps3, 1, 5⟩])).W ps3) = (1, 5) :: prs (psW i 0) from (chkC_ok (.inl rfl) (show i < 21 by omega)).2] at cT
      have r0 : w6.cell? ⟨w1.heap.size, 0, none⟩ = some (.int .i64 3) := HB.out.cell 0
      have r1 : w6.cell? ⟨w1.heap.size, 1, none⟩ = some (.bool false) := HB.out.cell 1
      have r2 : w6.cell? ⟨w1.heap.size, 2, none⟩ = some (.int .i64 0) := HB.out.cell 2
      go_wp2_with fail
      refine cT.mono ?_
      rintro e w7 ⟨v, rfl, h1, h2, hf⟩
      have hln : ((1, 5) :: prs (psW i 0) : List (Int × Int)).length = i + 1 := by rw [List.length_cons, psW_len]
      obtain ⟨qb, qc, rfl, _, hq9⟩ := h1.form (by rw [hln]; omega)
      have qq : w7.cell? ⟨qb, 0, none⟩ = some (.int .i64 1) := (hq9 0 _ rfl).1
      rw [hln]
      have hkk2 : ((i : Int) + 1 != (i : Int) + 1) = false := by simp
      have HUx := Lib.hid (HU.out.fr0 hf)
      have HFx := Lib.hid (HF.out.trans0 hf)
      have HBx := Lib.hid (HB.out.fr hf fun h => h)
      clear HU HF HB cT hf r0 r1 r2 h1 h2 hq9 hln
      have HU := HUx
      have HF := HFx
      have HB := HBx
      clear HUx HFx HBx
      have cL := HU.out.leave 2 (by omega) (by decide)
      rw [(chkC_ok (.inl rfl) (show i < 21 by omega)).1] at cL
      go_wp2_with fail
      refine cL.mono ?_
      rintro e w8 ⟨v, rfl, h1, hU, hf⟩
      have HU2 := Lib.hid hU
      have HF2 : Hid (Fr w w8 Nil) := low_back HF.out hf fun k h => h.1
      have HB2 := Lib.hid (HB.out.fr hf fun h => h.2 rfl)
      have hfl := (Fr.refl w8 Nil).alloc (.cells #[.int .i64 1] 2)
      have cS := sameInts_any v (.slice (some ⟨w8.heap.size, 0, none⟩) 1 1) _ [1] _ (h1.at.fr hfl fun _ _ h => h) (lit1 w8 1) (by simp) (by simp)
      simp only [decide_true] at cS
      obtain ⟨va, vc, rfl⟩ := h1.shape
      have HFL := Lib.hid hfl
      clear HU HF HB cL h1 hU hf hfl
      go_wp2_with fail
      refine cS.mono ?_
      rintro e w9 ⟨rfl, hf⟩
      have HU := Lib.hid ((HU2.out.fr0 HFL.out).fr0 hf)
      have HF := Lib.hid ((HF2.out.trans0 HFL.out).trans0 hf)
      have HB := Lib.hid ((HB2.out.fr HFL.out fun h => h).fr hf fun h => h)
      clear HU2 HF2 HB2 HFL cS hf
      have cT := HU.out.held 1 ps3 (by decide) ps_wf
      rw [show heldL (LkS.mk 100 [⟨ps3, 1, 5⟩] (psW i 0)).H 1 ps3 = 5 from by kernel_rfl] at cT
      have r0 : w9.cell? ⟨w1.heap.size, 0, none⟩ = some (.int .i64 3) := HB.out.cell 0
      have r1 : w9.cell? ⟨w1.heap.size, 1, none⟩ = some (.bool false) := HB.out.cell 1
      have r2 : w9.cell? ⟨w1.heap.size, 2, none⟩ = some (.int .i64 0) := HB.out.cell 2
      go_wp2_with fail
      refine cT.mono ?_
      rintro e w10 ⟨rfl, hf⟩
      have HUx := Lib.hid (HU.out.fr0 hf)
      have HFx := Lib.hid (HF.out.trans0 hf)
      have HBx := Lib.hid (HB.out.fr hf fun h => h)
      clear HU HF HB cT hf r0 r1 r2
      have HU := HUx
      have HF := HFx
      have HB := HBx
      clear HUx HFx HBx
      have cT := HU.out.queue ps3 (by omega) ps_wf
      rw [show prs (queueL (LkS.mk 100 [⟨ps3, 1, 5⟩] (psW i 0)).H (LkS.mk 100 [⟨ps3, 1, 5⟩] (psW i 0)).W ps3) = prs (psW i 0) from (chkD_ok (show i < 21 by omega) (show 0 < i by omega)).2] at cT
      have r0 : w10.cell? ⟨w1.heap.size, 0, none⟩ = some (.int .i64 3) := HB.out.cell 0
      have r1 : w10.cell? ⟨w1.heap.size, 1, none⟩ = some (.bool false) := HB.out.cell 1
      have r2 : w10.cell? ⟨w1.heap.size, 2, none⟩ = some (.int .i64 0) := HB.out.cell 2
      go_wp2_with fail
      refine cT.mono ?_
      rintro e w11 ⟨v, rfl, h1, h2, hf⟩
      have hln := psW_len i
      obtain ⟨qa2, qc2, rfl⟩ := h1.shape
      rw [hln]
      clear h1 h2 hln
      have HUx := Lib.hid (HU.out.fr0 hf)
      have HFx := Lib.hid (HF.out.trans0 hf)
      have HBx := Lib.hid (HB.out.fr hf fun h => h)
      clear HU HF HB cT hf r0 r1 r2
      have HU := HUx
      have HF := HFx
      have HB := HBx
      clear HUx HFx HBx
      go_wp2_with fail
      go_loopw [20, 21] (fun vi _ wr => ∃ j : Nat, vi = .int .i64 (j : Int) ∧ j ≤ i ∧ Hid (LkU wr lb ⟨100, [⟨ps3, psLast j, 5⟩], psW i j⟩ 30 200 (AtA w.heap.size w1.heap.size)) ∧ Hid (Fr w wr Nil) ∧ Hid (Bk wr w1.heap.size 26 [.int .i64 3, .bool false, .int .i64 0])) (fun vi _ _ => i - (intOf vi).toNat)
      case atStart => exact ⟨0, by go_num, by omega, HU.out.more (by omega) (by omega), HF.out, HB.out⟩
      case round =>
        clear HU HF HB
        obtain ⟨j, rfl, hj, HU, HF, HB⟩ := hrel
        obtain ⟨w12, rfl⟩ : ∃ wo : World, wo = wr := ⟨_, rfl⟩
        by_cases hlj : j < i
        · have hjl : (j : Int) < (i : Int) := by omega
          have HD := Lib.hid (chkD_ok (show i < 21 by omega) hlj).1
          have hj0 : (0 : Int) ≤ (j : Int) := by omega
          by_cases hz : j = 0
          · have hz1 : ((j : Int) == 0) = true := by rw [beq_iff_eq]; omega
            subst hz
            have HD3 : Hid (leaveL ⟨100, [⟨ps3, 1, 5⟩], psW i 0⟩ 1 = ([10], ⟨100, [⟨ps3, 10, 5⟩], psW i 1⟩)) := HD
            have HUz : Hid (LkU w12 lb ⟨100, [⟨ps3, 1, 5⟩], psW i 0⟩ 30 200 (AtA w.heap.size w1.heap.size)) := HU
            clear HU HD
            have HU := HUz
            clear HUz
            have cL := HU.out.leave 1 (by omega) (by decide)
            rw [HD3.out] at cL
            go_wp2_with fail
            refine cL.mono ?_
            rintro e w13 ⟨v, rfl, h1, hU, hf⟩
            have HU2 := Lib.hid hU
            have HF2 : Hid (Fr w w13 Nil) := low_back HF.out hf fun k h => h.1
            have HB2 := Lib.hid (HB.out.fr hf fun h => h.2 rfl)
            have hfl := (Fr.refl w13 Nil).alloc (.cells #[.int .i64 10] 2)
            have cS := sameInts_any v (.slice (some ⟨w13.heap.size, 0, none⟩) 1 1) _ [10] _ (h1.at.fr hfl fun _ _ h => h) (lit1 w13 10) (by simp) (by simp)
            simp only [decide_true] at cS
            obtain ⟨va, vc, rfl⟩ := h1.shape
            have HFL := Lib.hid hfl
            clear HU HF HB cL h1 hU hf hfl
            go_wp2_with fail
            refine cS.mono ?_
            rintro e w14 ⟨rfl, hf⟩
            have HU := Lib.hid ((HU2.out.fr0 HFL.out).fr0 hf)
            have HF := Lib.hid ((HF2.out.trans0 HFL.out).trans0 hf)
            have HB := Lib.hid ((HB2.out.fr HFL.out fun h => h).fr hf fun h => h)
            clear HU2 HF2 HB2 HFL cS hf
            have cT := HU.out.held 10 ps3 (by decide) ps_wf
            rw [show heldL (LkS.mk 100 [⟨ps3, 10, 5⟩] (psW i 1)).H 10 ps3 = 5 from by kernel_rfl] at cT
            have r0 : w14.cell? ⟨w1.heap.size, 0, none⟩ = some (.int .i64 3) := HB.out.cell 0
            have r1 : w14.cell? ⟨w1.heap.size, 1, none⟩ = some (.bool false) := HB.out.cell 1
            have r2 : w14.cell? ⟨w1.heap.size, 2, none⟩ = some (.int .i64 0) := HB.out.cell 2
            go_wp2_with fail
            refine cT.mono ?_
            rintro e w15 ⟨rfl, hf⟩
            have HUx := Lib.hid (HU.out.fr0 hf)
            have HFx := Lib.hid (HF.out.trans0 hf)
            have HBx := Lib.hid (HB.out.fr hf fun h => h)
            clear HU HF HB cT hf r0 r1 r2
            have HU := HUx
            have HF := HFx
            have HB := HBx
            clear HUx HFx HBx
            go_wp2_with fail
            go_roundw
            case rel => exact ⟨1, by go_num, by omega, HU.out, HF.out, HB.out⟩
            case measure => simp [intOf]; omega
          · have hz1 : ((j : Int) == 0) = false := by rw [beq_eq_false_iff_ne]; omega
            have hlast : psLast j = (9 + (j : Int)) := by unfold psLast; rw [if_neg hz]
            have HD2 := HD.out
            rw [hlast] at HD2
            have HUy := HU.out
            rw [hlast] at HUy
            have HUz := Lib.hid HUy
            clear HU HUy hlast
            have HU := HUz
            clear HUz
            have HD3 := Lib.hid HD2
            clear HD2 HD
            have cL := HU.out.leave (9 + (j : Int)) (by omega) (i64_wf (by omega) (by omega))
            rw [HD3.out] at cL
            go_wp2_with fail
            refine cL.mono ?_
            rintro e w13 ⟨v, rfl, h1, hU, hf⟩
            have HU2 := Lib.hid hU
            have HF2 : Hid (Fr w w13 Nil) := low_back HF.out hf fun k h => h.1
            have HB2 := Lib.hid (HB.out.fr hf fun h => h.2 rfl)
            have hfl := (Fr.refl w13 Nil).alloc (.cells #[.int .i64 (10 + (j : Int))] 2)
            have cS := sameInts_any v (.slice (some ⟨w13.heap.size, 0, none⟩) 1 1) _ [(10 + (j : Int))] _ (h1.at.fr hfl fun _ _ h => h) (lit1 w13 (10 + (j : Int))) (by simp) (by simp)
            simp only [decide_true] at cS
            obtain ⟨va, vc, rfl⟩ := h1.shape
            have HFL := Lib.hid hfl
            clear HU HF HB cL h1 hU hf hfl
            go_wp2_with fail
            refine cS.mono ?_
            rintro e w14 ⟨rfl, hf⟩
            have HU := Lib.hid ((HU2.out.fr0 HFL.out).fr0 hf)
            have HF := Lib.hid ((HF2.out.trans0 HFL.out).trans0 hf)
            have HB := Lib.hid ((HB2.out.fr HFL.out fun h => h).fr hf fun h => h)
            clear HU2 HF2 HB2 HFL cS hf
            have cT := HU.out.held (10 + (j : Int)) ps3 (i64_wf (by omega) (by omega)) ps_wf
            rw [show heldL (LkS.mk 100 [⟨ps3, 10 + (j : Int), 5⟩] (psW i (j + 1))).H (10 + (j : Int)) ps3 = 5 from by simp [heldL]] at cT
            have r0 : w14.cell? ⟨w1.heap.size, 0, none⟩ = some (.int .i64 3) := HB.out.cell 0
            have r1 : w14.cell? ⟨w1.heap.size, 1, none⟩ = some (.bool false) := HB.out.cell 1
            have r2 : w14.cell? ⟨w1.heap.size, 2, none⟩ = some (.int .i64 0) := HB.out.cell 2
            go_wp2_with fail
            refine cT.mono ?_
            rintro e w15 ⟨rfl, hf⟩
            have HUx := Lib.hid (HU.out.fr0 hf)
            have HFx := Lib.hid (HF.out.trans0 hf)
            have HBx := Lib.hid (HB.out.fr hf fun h => h)
            clear HU HF HB cT hf r0 r1 r2
            have HU := HUx
            have HF := HFx
            have HB := HBx
            clear HUx HFx HBx
            go_wp2_with fail
            go_roundw
            case rel => exact ⟨j + 1, by go_num, by omega, (by rw [psLast_next]; exact HU.out), HF.out, HB.out⟩
            case measure => simp [intOf]; omega
        · obtain rfl : j = i := by omega
          go_wp2_with fail
          refine (works_any w12).mono ?_
          rintro e w9 ⟨rfl, hf9⟩
          have HF9 := Lib.hid (HF.out.trans0 hf9)
          clear hf9
          go_wp2_with fail
          go_ret
          exact ⟨rfl, HF9.out⟩
set_option maxRecDepth 100000 in
set_option maxHeartbeats 8000000 in
theorem lpass_3a (c : Int) (w : World) (q0 : Nat) (hq : c.tmod 20 = (q0 : Int)) (hq2 : q0 < 20) :
    Calls Try.prog 3 #[.int .u8 c, .bool false, .bool true] w fun e w' => e = .returned (.bool true) ∧ Fr w w' Nil := by
  have cN := new_U 100 w
  rw [show (max 0 100 : Int) = 100 from rfl] at cN
  obtain ⟨kk, hkk⟩ : ∃ kk : Nat, q0 + 1 = kk := ⟨_, rfl⟩
  have hk1 : (1 : Int) + (q0 : Int) = (kk : Int) := by omega
  have hk21 : kk < 21 := by omega
  have hq3 : (0 : Int) ≤ (q0 : Int) := by omega
  have hq4 : (q0 : Int) < 20 := by omega
  go_enter Try.func3, Try.ntmps3
  go_wp2_with fail
  refine cN.mono ?_
  rintro e w1 ⟨lb, rfl, hU, hf1⟩
  go_upto_region 7 with fail
  obtain ⟨w2, hw2⟩ : ∃ w2, w1.alloc (.cells #[.int .i64 3, .bool false, .int .i64 0] 26) = w2 := ⟨_, rfl⟩
  rw [hw2]
  have hf2 : Fr w1 w2 Nil := by rw [← hw2]; exact (Fr.refl w1 Nil).alloc _
  have HB : Hid (Bk w2 w1.heap.size 26 [.int .i64 3, .bool false, .int .i64 0]) := Lib.hid (by rw [← hw2]; exact Bk.new w1 _ _)
  have HU : Hid (LkU w2 lb ⟨100, [], []⟩ 0 3 (AtA w.heap.size w1.heap.size)) := (hU.not fun k h1 h2 => ⟨h1, by omega⟩).fr0 hf2
  have HF := Lib.hid (hf1.trans0 hf2)
  clear cN hU hf1 hf2 hw2
  have cA := HU.out.ask (fun k hk => ⟨by show w.heap.size ≤ k; have := HF.out.size; omega, by have := HB.out.lt; omega⟩) 1 ps3 3 (by omega) (by omega) (by decide) ps_wf (by decide)
  rw [show askL ⟨100, [], []⟩ 1 ps3 3 = ((true, 0), ⟨100, psH 3 false, []⟩) by kernel_rfl] at cA
  have r0 : w2.cell? ⟨w1.heap.size, 0, none⟩ = some (.int .i64 3) := HB.out.cell 0
  have r1 : w2.cell? ⟨w1.heap.size, 1, none⟩ = some (.bool false) := HB.out.cell 1
  have r2 : w2.cell? ⟨w1.heap.size, 2, none⟩ = some (.int .i64 0) := HB.out.cell 2
  go_wp2_with fail
  refine cA.mono ?_
  rintro e w3 ⟨rfl, hU, hf⟩
  have HUx := Lib.hid hU
  have HFx : Hid (Fr w w3 Nil) := low_back HF.out hf fun k h => h.1
  have HBx := Lib.hid (HB.out.fr hf fun h => h.2 rfl)
  clear HU HF HB cA hU hf r0 r1 r2
  have HU := HUx
  have HF := HFx
  have HB := HBx
  clear HUx HFx HBx
  go_wp2_with fail
  go_loopw [14] (fun vi wr => ∃ i : Nat, vi = .int .i64 (i : Int) ∧ i ≤ kk ∧ Hid (LkU wr lb ⟨100, (psH 3 false), psW i 0⟩ (1 + i) (7 + 4 * i) (AtA w.heap.size w1.heap.size)) ∧ Hid (Fr w wr Nil) ∧ Hid (Bk wr w1.heap.size 26 [.int .i64 3, .bool false, .int .i64 0])) (fun vi _ => kk - (intOf vi).toNat)
  case atStart => exact ⟨0, by go_num, by omega, HU.out, HF.out, HB.out⟩
  case round =>
    clear HU HF HB
    obtain ⟨i, rfl, hi, HU, HF, HB⟩ := hrel
    obtain ⟨w4, rfl⟩ : ∃ wo : World, wo = wr := ⟨_, rfl⟩
    by_cases hlt : i < kk
    · have hil : (i : Int) < (kk : Int) := by omega
      have cA := HU.out.ask (fun k hk => ⟨by show w.heap.size ≤ k; have := HF.out.size; omega, by have := HB.out.lt; omega⟩) (10 + (i : Int)) ps3 5 (by omega) (by omega) (i64_wf (by omega) (by omega)) ps_wf (by decide)
      rw [chkA_ok (.inr rfl) false (show i < 20 by omega)] at cA
      have r0 : w4.cell? ⟨w1.heap.size, 0, none⟩ = some (.int .i64 3) := HB.out.cell 0
      have r1 : w4.cell? ⟨w1.heap.size, 1, none⟩ = some (.bool false) := HB.out.cell 1
      have r2 : w4.cell? ⟨w1.heap.size, 2, none⟩ = some (.int .i64 0) := HB.out.cell 2
      go_wp2_with fail
      refine cA.mono ?_
      rintro e w5 ⟨rfl, hU, hf⟩
      have HUx := Lib.hid hU
      have HFx : Hid (Fr w w5 Nil) := low_back HF.out hf fun k h => h.1
      have HBx := Lib.hid (HB.out.fr hf fun h => h.2 rfl)
      clear HU HF HB cA hU hf r0 r1 r2
      have HU := HUx
      have HF := HFx
      have HB := HBx
      clear HUx HFx HBx
      go_wp2_with fail
      go_roundw
      case rel => exact ⟨i + 1, by go_num, by omega, HU.out, HF.out, HB.out⟩
      case measure => simp [intOf]; omega
    · obtain rfl : i = kk := by omega
      have cA := HU.out.ask (fun k hk => ⟨by show w.heap.size ≤ k; have := HF.out.size; omega, by have := HB.out.lt; omega⟩) 1 ps3 5 (by omega) (by omega) (by decide) ps_wf (by decide)
      rw [chkB_ok (.inr rfl) false (show i < 21 by omega), if_neg (by decide)] at cA
      have r0 : w4.cell? ⟨w1.heap.size, 0, none⟩ = some (.int .i64 3) := HB.out.cell 0
      have r1 : w4.cell? ⟨w1.heap.size, 1, none⟩ = some (.bool false) := HB.out.cell 1
      have r2 : w4.cell? ⟨w1.heap.size, 2, none⟩ = some (.int .i64 0) := HB.out.cell 2
      go_wp2_with fail
      refine cA.mono ?_
      rintro e w5 ⟨rfl, hU, hf⟩
      have HUx := Lib.hid hU
      have HFx : Hid (Fr w w5 Nil) := low_back HF.out hf fun k h => h.1
      have HBx := Lib.hid (HB.out.fr hf fun h => h.2 rfl)
      clear HU HF HB cA hU hf r0 r1 r2
      have HU := HUx
      have HF := HFx
      have HB := HBx
      clear HUx HFx HBx
      have cT := HU.out.held 1 ps3 (by decide) ps_wf
      rw [show heldL (LkS.mk 100 [⟨ps3, 1, 5⟩] (psW i 0)).H 1 ps3 = 5 from by kernel_rfl] at cT
      have r0 : w5.cell? ⟨w1.heap.size, 0, none⟩ = some (.int .i64 3) := HB.out.cell 0
      have r1 : w5.cell? ⟨w1.heap.size, 1, none⟩ = some (.bool false) := HB.out.cell 1
      have r2 : w5.cell? ⟨w1.heap.size, 2, none⟩ = some (.int .i64 0) := HB.out.cell 2
      go_wp2_with fail
      refine cT.mono ?_
      rintro e w6 ⟨rfl, hf⟩
      have HUx := Lib.hid (HU.out.fr0 hf)
      have HFx := Lib.hid (HF.out.trans0 hf)
      have HBx := Lib.hid (HB.out.fr hf fun h => h)
      clear HU HF HB cT hf r0 r1 r2
      have HU := HUx
      have HF := HFx
      have HB := HBx
      clear HUx HFx HBx
      have cT := HU.out.queue ps3 (by omega) ps_wf
      rw [show prs (queueL (LkS.mk 100 [⟨ps3, 1, 5⟩] (psW i 0)).H (LkS.mk 100 [⟨ps3, 1, 5⟩] (psW i 0)).W ps3) = prs (psW i 0) from (chkD_ok (show i < 21 by omega) (show 0 < i by omega)).2] at cT
      have r0 : w6.cell? ⟨w1.heap.size, 0, none⟩ = some (.int .i64 3) := HB.out.cell 0
      have r1 : w6.cell? ⟨w1.heap.size, 1, none⟩ = some (.bool false) := HB.out.cell 1
      have r2 : w6.cell? ⟨w1.heap.size, 2, none⟩ = some (.int .i64 0) := HB.out.cell 2
      go_wp2_with fail
      refine cT.mono ?_
      rintro e w7 ⟨v, rfl, h1, h2, hf⟩
      have hln := psW_len i
      obtain ⟨qa2, qc2, rfl⟩ := h1.shape
      rw [hln]
      clear h1 h2 hln
      have HUx := Lib.hid (HU.out.fr0 hf)
      have HFx := Lib.hid (HF.out.trans0 hf)
      have HBx := Lib.hid (HB.out.fr hf fun h => h)
      clear HU HF HB cT hf r0 r1 r2
      have HU := HUx
      have HF := HFx
      have HB := HBx
      clear HUx HFx HBx
      go_wp2_with fail
      go_loopw [20, 21] (fun vi _ wr => ∃ j : Nat, vi = .int .i64 (j : Int) ∧ j ≤ i ∧ Hid (LkU wr lb ⟨100, [⟨ps3, psLast j, 5⟩], psW i j⟩ 30 200 (AtA w.heap.size w1.heap.size)) ∧ Hid (Fr w wr Nil) ∧ Hid (Bk wr w1.heap.size 26 [.int .i64 3, .bool false, .int .i64 0])) (fun vi _ _ => i - (intOf vi).toNat)
      case atStart => exact ⟨0, by go_num, by omega, HU.out.more (by omega) (by omega), HF.out, HB.out⟩
      case round =>
        clear HU HF HB
        obtain ⟨j, rfl, hj, HU, HF, HB⟩ := hrel
        obtain ⟨w8, rfl⟩ : ∃ wo : World, wo = wr := ⟨_, rfl⟩
        by_cases hlj : j < i
        · have hjl : (j : Int) < (i : Int) := by omega
          have HD := Lib.hid (chkD_ok (show i < 21 by omega) hlj).1
          have hj0 : (0 : Int) ≤ (j : Int) := by omega
          by_cases hz : j = 0
          · have hz1 : ((j : Int) == 0) = true := by rw [beq_iff_eq]; omega
            subst hz
            have HD3 : Hid (leaveL ⟨100, [⟨ps3, 1, 5⟩], psW i 0⟩ 1 = ([10], ⟨100, [⟨ps3, 10, 5⟩], psW i 1⟩)) := HD
            have HUz : Hid (LkU w8 lb ⟨100, [⟨ps3, 1, 5⟩], psW i 0⟩ 30 200 (AtA w.heap.size w1.heap.size)) := HU
            clear HU HD
            have HU := HUz
            clear HUz
            have cL := HU.out.leave 1 (by omega) (by decide)
            rw [HD3.out] at cL
            go_wp2_with fail
            refine cL.mono ?_
            rintro e w9 ⟨v, rfl, h1, hU, hf⟩
            have HU2 := Lib.hid hU
            have HF2 : Hid (Fr w w9 Nil) := low_back HF.out hf fun k h => h.1
            have HB2 := Lib.hid (HB.out.fr hf fun h => h.2 rfl)
            have hfl := (Fr.refl w9 Nil).alloc (.cells #[.int .i64 10] 2)
            have cS := sameInts_any v (.slice (some ⟨w9.heap.size, 0, none⟩) 1 1) _ [10] _ (h1.at.fr hfl fun _ _ h => h) (lit1 w9 10) (by simp) (by simp)
            simp only [decide_true] at cS
            obtain ⟨va, vc, rfl⟩ := h1.shape
            have HFL := Lib.hid hfl
            clear HU HF HB cL h1 hU hf hfl
            go_wp2_with fail
            refine cS.mono ?_
            rintro e w10 ⟨rfl, hf⟩
            have HU := Lib.hid ((HU2.out.fr0 HFL.out).fr0 hf)
            have HF := Lib.hid ((HF2.out.trans0 HFL.out).trans0 hf)
            have HB := Lib.hid ((HB2.out.fr HFL.out fun h => h).fr hf fun h => h)
            clear HU2 HF2 HB2 HFL cS hf
            have cT := HU.out.held 10 ps3 (by decide) ps_wf
            rw [show heldL (LkS.mk 100 [⟨ps3, 10, 5⟩] (psW i 1)).H 10 ps3 = 5 from by kernel_rfl] at cT
            have r0 : w10.cell? ⟨w1.heap.size, 0, none⟩ = some (.int .i64 3) := HB.out.cell 0
            have r1 : w10.cell? ⟨w1.heap.size, 1, none⟩ = some (.bool false) := HB.out.cell 1
            have r2 : w10.cell? ⟨w1.heap.size, 2, none⟩ = some (.int .i64 0) := HB.out.cell 2
            go_wp2_with fail
            refine cT.mono ?_
            rintro e w11 ⟨rfl, hf⟩
            have HUx := Lib.hid (HU.out.fr0 hf)
            have HFx := Lib.hid (HF.out.trans0 hf)
            have HBx := Lib.hid (HB.out.fr hf fun h => h)
            clear HU HF HB cT hf r0 r1 r2
            have HU := HUx
            have HF := HFx
            have HB := HBx
            clear HUx HFx HBx
            go_wp2_with fail
            go_roundw
            case rel => exact ⟨1, by go_num, by omega, HU.out, HF.out, HB.out⟩
            case measure => simp [intOf]; omega
          · have hz1 : ((j : Int) == 0) = false := by rw [beq_eq_false_iff_ne]; omega
            have hlast : psLast j = (9 + (j : Int)) := by unfold psLast; rw [if_neg hz]
            have HD2 := HD.out
            rw [hlast] at HD2
            have HUy := HU.out
            rw [hlast] at HUy
            have HUz := Lib.hid HUy
            clear HU HUy hlast
            have HU := HUz
            clear HUz
            have HD3 := Lib.hid HD2
            clear HD2 HD
            have cL := HU.out.leave (9 + (j : Int)) (by omega) (i64_wf (by omega) (by omega))
            rw [HD3.out] at cL
            go_wp2_with fail
            refine cL.mono ?_
            rintro e w9 ⟨v, rfl, h1, hU, hf⟩
            have HU2 := Lib.hid hU
            have HF2 : Hid (Fr w w9 Nil) := low_back HF.out hf fun k h => h.1
            have HB2 := Lib.hid (HB.out.fr hf fun h => h.2 rfl)
            have hfl := (Fr.refl w9 Nil).alloc (.cells #[.int .i64 (10 + (j : Int))] 2)
            have cS := sameInts_any v (.slice (some ⟨w9.heap.size, 0, none⟩) 1 1) _ [(10 + (j : Int))] _ (h1.at.fr hfl fun _ _ h => h) (lit1 w9 (10 + (j : Int))) (by simp) (by simp)
            simp only [decide_true] at cS
            obtain ⟨va, vc, rfl⟩ := h1.shape
            have HFL := Lib.hid hfl
            clear HU HF HB cL h1 hU hf hfl
            go_wp2_with fail
            refine cS.mono ?_
            rintro e w10 ⟨rfl, hf⟩
            have HU := Lib.hid ((HU2.out.fr0 HFL.out).fr0 hf)
            have HF := Lib.hid ((HF2.out.trans0 HFL.out).trans0 hf)
            have HB := Lib.hid ((HB2.out.fr HFL.out fun h => h).fr hf fun h => h)
            clear HU2 HF2 HB2 HFL cS hf
            have cT := HU.out.held (10 + (j : Int)) ps3 (i64_wf (by omega) (by omega)) ps_wf
            rw [show heldL (LkS.mk 100 [⟨ps3, 10 + (j : Int), 5⟩] (psW i (j + 1))).H (10 + (j : Int)) ps3 = 5 from by simp [heldL]] at cT
            have r0 : w10.cell? ⟨w1.heap.size, 0, none⟩ = some (.int .i64 3) := HB.out.cell 0
            have r1 : w10.cell? ⟨w1.heap.size, 1, none⟩ = some (.bool false) := HB.out.cell 1
            have r2 : w10.cell? ⟨w1.heap.size, 2, none⟩ = some (.int .i64 0) := HB.out.cell 2
            go_wp2_with fail
            refine cT.mono ?_
            rintro e w11 ⟨rfl, hf⟩
            have HUx := Lib.hid (HU.out.fr0 hf)
            have HFx := Lib.hid (HF.out.trans0 hf)
            have HBx := Lib.hid (HB.out.fr hf fun h => h)
            clear HU HF HB cT hf r0 r1 r2
            have HU := HUx
            have HF := HFx
            have HB := HBx
            clear HUx HFx HBx
            go_wp2_with fail
            go_roundw
            case rel => exact ⟨j + 1, by go_num, by omega, (by rw [psLast_next]; exact HU.out), HF.out, HB.out⟩
            case measure => simp [intOf]; omega
        · obtain rfl : j = i := by omega
          go_wp2_with fail
          refine (works_any w8).mono ?_
          rintro e w9 ⟨rfl, hf9⟩
          have HF9 := Lib.hid (HF.out.trans0 hf9)
          clear hf9
          go_wp2_with fail
          go_ret
          exact ⟨rfl, HF9.out⟩
set_option maxRecDepth 100000 in
set_option maxHeartbeats 8000000 in
theorem lpass_3b (c : Int) (w : World) (q0 : Nat) (hq : c.tmod 20 = (q0 : Int)) (hq2 : q0 < 20) :
    Calls Try.prog 3 #[.int .u8 c, .bool true, .bool true] w fun e w' => e = .returned (.bool true) ∧ Fr w w' Nil := by
  have cN := new_U 100 w
  rw [show (max 0 100 : Int) = 100 from rfl] at cN
  obtain ⟨kk, hkk⟩ : ∃ kk : Nat, q0 + 1 = kk := ⟨_, rfl⟩
  have hk1 : (1 : Int) + (q0 : Int) = (kk : Int) := by omega
  have hk21 : kk < 21 := by omega
  have hq3 : (0 : Int) ≤ (q0 : Int) := by omega
  have hq4 : (q0 : Int) < 20 := by omega
  go_enter Try.func3, Try.ntmps3
  go_wp2_with fail
  refine cN.mono ?_
  rintro e w1 ⟨lb, rfl, hU, hf1⟩
  go_upto_region 7 with fail
  obtain ⟨w2, hw2⟩ : ∃ w2, w1.alloc (.cells #[.int .i64 3, .bool false, .int .i64 0] 26) = w2 := ⟨_, rfl⟩
  rw [hw2]
  have hf2 : Fr w1 w2 Nil := by rw [← hw2]; exact (Fr.refl w1 Nil).alloc _
  have HB : Hid (Bk w2 w1.heap.size 26 [.int .i64 3, .bool false, .int .i64 0]) := Lib.hid (by rw [← hw2]; exact Bk.new w1 _ _)
  have HU : Hid (LkU w2 lb ⟨100, [], []⟩ 0 3 (AtA w.heap.size w1.heap.size)) := (hU.not fun k h1 h2 => ⟨h1, by omega⟩).fr0 hf2
  have HF := Lib.hid (hf1.trans0 hf2)
  clear cN hU hf1 hf2 hw2
  have cA := HU.out.ask (fun k hk => ⟨by show w.heap.size ≤ k; have := HF.out.size; omega, by have := HB.out.lt; omega⟩) 1 ps3 3 (by omega) (by omega) (by decide) ps_wf (by decide)
  rw [show askL ⟨100, [], []⟩ 1 ps3 3 = ((true, 0), ⟨100, psH 3 false, []⟩) by kernel_rfl] at cA
  have r0 : w2.cell? ⟨w1.heap.size, 0, none⟩ = some (.int .i64 3) := HB.out.cell 0
  have r1 : w2.cell? ⟨w1.heap.size, 1, none⟩ = some (.bool false) := HB.out.cell 1
  have r2 : w2.cell? ⟨w1.heap.size, 2, none⟩ = some (.int .i64 0) := HB.out.cell 2
  go_wp2_with fail
  refine cA.mono ?_
  rintro e w3 ⟨rfl, hU, hf⟩
  have HUx := Lib.hid hU
  have HFx : Hid (Fr w w3 Nil) := low_back HF.out hf fun k h => h.1
  have HBx := Lib.hid (HB.out.fr hf fun h => h.2 rfl)
  clear HU HF HB cA hU hf r0 r1 r2
  have HU := HUx
  have HF := HFx
  have HB := HBx
  clear HUx HFx HBx
  have cA := HU.out.ask (fun k hk => ⟨by show w.heap.size ≤ k; have := HF.out.size; omega, by have := HB.out.lt; omega⟩) 2 ps3 3 (by omega) (by omega) (by decide) ps_wf (by decide)
  rw [show askL ⟨100, psH 3 false, []⟩ 2 ps3 3 = ((true, 0), ⟨100, psH 3 true, []⟩) by kernel_rfl] at cA
  have r0 : w3.cell? ⟨w1.heap.size, 0, none⟩ = some (.int .i64 3) := HB.out.cell 0
  have r1 : w3.cell? ⟨w1.heap.size, 1, none⟩ = some (.bool false) := HB.out.cell 1
  have r2 : w3.cell? ⟨w1.heap.size, 2, none⟩ = some (.int .i64 0) := HB.out.cell 2
  go_wp2_with fail
  refine cA.mono ?_
  rintro e w4 ⟨rfl, hU, hf⟩
  have HUx := Lib.hid hU
  have HFx : Hid (Fr w w4 Nil) := low_back HF.out hf fun k h => h.1
  have HBx := Lib.hid (HB.out.fr hf fun h => h.2 rfl)
  clear HU HF HB cA hU hf r0 r1 r2
  have HU := HUx
  have HF := HFx
  have HB := HBx
  clear HUx HFx HBx
  go_wp2_with fail
  go_loopw [14] (fun vi wr => ∃ i : Nat, vi = .int .i64 (i : Int) ∧ i ≤ kk ∧ Hid (LkU wr lb ⟨100, (psH 3 true), psW i 0⟩ (2 + i) (11 + 4 * i) (AtA w.heap.size w1.heap.size)) ∧ Hid (Fr w wr Nil) ∧ Hid (Bk wr w1.heap.size 26 [.int .i64 3, .bool false, .int .i64 0])) (fun vi _ => kk - (intOf vi).toNat)
  case atStart => exact ⟨0, by go_num, by omega, HU.out, HF.out, HB.out⟩
  case round =>
    clear HU HF HB
    obtain ⟨i, rfl, hi, HU, HF, HB⟩ := hrel
    obtain ⟨w5, rfl⟩ : ∃ wo : World, wo = wr := ⟨_, rfl⟩
    by_cases hlt : i < kk
    · have hil : (i : Int) < (kk : Int) := by omega
      have cA := HU.out.ask (fun k hk => ⟨by show w.heap.size ≤ k; have := HF.out.size; omega, by have := HB.out.lt; omega⟩) (10 + (i : Int)) ps3 5 (by omega) (by omega) (i64_wf (by omega) (by omega)) ps_wf (by decide)
      rw [chkA_ok (.inr rfl) true (show i < 20 by omega)] at cA
      have r0 : w5.cell? ⟨w1.heap.size, 0, none⟩ = some (.int .i64 3) := HB.out.cell 0
      have r1 : w5.cell? ⟨w1.heap.size, 1, none⟩ = some (.bool false) := HB.out.cell 1
      have r2 : w5.cell? ⟨w1.heap.size, 2, none⟩ = some (.int .i64 0) := HB.out.cell 2
      go_wp2_with fail
      refine cA.mono ?_
      rintro e w6 ⟨rfl, hU, hf⟩
      have HUx := Lib.hid hU
      have HFx : Hid (Fr w w6 Nil) := low_back HF.out hf fun k h => h.1
      have HBx := Lib.hid (HB.out.fr hf fun h => h.2 rfl)
      clear HU HF HB cA hU hf r0 r1 r2
      have HU := HUx
      have HF := HFx
      have HB := HBx
      clear HUx HFx HBx
      go_wp2_with fail
      go_roundw
      case rel => exact ⟨i + 1, by go_num, by omega, HU.out, HF.out, HB.out⟩
      case measure => simp [intOf]; omega
    · obtain rfl : i = kk := by omega
      have cA := HU.out.ask (fun k hk => ⟨by show w.heap.size ≤ k; have := HF.out.size; omega, by have := HB.out.lt; omega⟩) 1 ps3 5 (by omega) (by omega) (by decide) ps_wf (by decide)
      rw [chkB_ok (.inr rfl) true (show i < 21 by omega), if_pos rfl] at cA
      have r0 : w5.cell? ⟨w1.heap.size, 0, none⟩ = some (.int .i64 3) := HB.out.cell 0
      have r1 : w5.cell? ⟨w1.heap.size, 1, none⟩ = some (.bool false) := HB.out.cell 1
      have r2 : w5.cell? ⟨w1.heap.size, 2, none⟩ = some (.int .i64 0) := HB.out.cell 2
      go_wp2_with fail
      refine cA.mono ?_
      rintro e w6 ⟨rfl, hU, hf⟩
      have HUx := Lib.hid hU
      have HFx : Hid (Fr w w6 Nil) := low_back HF.out hf fun k h => h.1
      have HBx := Lib.hid (HB.out.fr hf fun h => h.2 rfl)
      clear HU HF HB cA hU hf r0 r1 r2
      have HU := HUx
      have HF := HFx
      have HB := HBx
      clear HUx HFx HBx
      have cT := HU.out.queue ps3 (by omega) ps_wf
      rw [show prs (queueL (LkS.mk 100 (psH 3 true) (psW i 0 ++ [⟨ps3, 1, 5⟩])).H (LkS.mk 100 (psH 3 true) (psW i 0 ++ [⟨ps3, 1, 5⟩])).W ps3) = (1, 5) :: prs (psW i 0) from (chkC_ok (.inr rfl) (show i < 21 by omega)).2] at cT
      have r0 : w6.cell? ⟨w1.heap.size, 0, none⟩ = some (.int .i64 3) := HB.out.cell 0
      have r1 : w6.cell? ⟨w1.heap.size, 1, none⟩ = some (.bool false) := HB.out.cell 1
      have r2 : w6.cell? ⟨w1.heap.size, 2, none⟩ = some (.int .i64 0) := HB.out.cell 2
      go_wp2_with fail
      refine cT.mono ?_
      rintro e w7 ⟨v, rfl, h1, h2, hf⟩
      have hln : ((1, 5) :: prs (psW i 0) : List (Int × Int)).length = i + 1 := by rw [List.length_cons, psW_len]
      obtain ⟨qb, qc, rfl, _, hq9⟩ := h1.form (by rw [hln]; omega)
      have qq : w7.cell? ⟨qb, 0, none⟩ = some (.int .i64 1) := (hq9 0 _ rfl).1
      rw [hln]
      have hkk2 : ((i : Int) + 1 != (i : Int) + 1) = false := by simp
      have HUx := Lib.hid (HU.out.fr0 hf)
      have HFx := Lib.hid (HF.out.trans0 hf)
      have HBx := Lib.hid (HB.out.fr hf fun h => h)
      clear HU HF HB cT hf r0 r1 r2 h1 h2 hq9 hln
      have HU := HUx
      have HF := HFx
      have HB := HBx
      clear HUx HFx HBx
      have cL := HU.out.leave 2 (by omega) (by decide)
      rw [(chkC_ok (.inr rfl) (show i < 21 by omega)).1] at cL
      go_wp2_with fail
      refine cL.mono ?_
      rintro e w8 ⟨v, rfl, h1, hU, hf⟩
      have HU2 := Lib.hid hU
      have HF2 : Hid (Fr w w8 Nil) := low_back HF.out hf fun k h => h.1
      have HB2 := Lib.hid (HB.out.fr hf fun h => h.2 rfl)
      have hfl := (Fr.refl w8 Nil).alloc (.cells #[.int .i64 1] 2)
      have cS := sameInts_any v (.slice (some ⟨w8.heap.size, 0, none⟩) 1 1) _ [1] _ (h1.at.fr hfl fun _ _ h => h) (lit1 w8 1) (by simp) (by simp)
      simp only [decide_true] at cS
      obtain ⟨va, vc, rfl⟩ := h1.shape
      have HFL := Lib.hid hfl
      clear HU HF HB cL h1 hU hf hfl
      go_wp2_with fail
      refine cS.mono ?_
      rintro e w9 ⟨rfl, hf⟩
      have HU := Lib.hid ((HU2.out.fr0 HFL.out).fr0 hf)
      have HF := Lib.hid ((HF2.out.trans0 HFL.out).trans0 hf)
      have HB := Lib.hid ((HB2.out.fr HFL.out fun h => h).fr hf fun h => h)
      clear HU2 HF2 HB2 HFL cS hf
      have cT := HU.out.held 1 ps3 (by decide) ps_wf
      rw [show heldL (LkS.mk 100 [⟨ps3, 1, 5⟩] (psW i 0)).H 1 ps3 = 5 from by kernel_rfl] at cT
      have r0 : w9.cell? ⟨w1.heap.size, 0, none⟩ = some (.int .i64 3) := HB.out.cell 0
      have r1 : w9.cell? ⟨w1.heap.size, 1, none⟩ = some (.bool false) := HB.out.cell 1
      have r2 : w9.cell? ⟨w1.heap.size, 2, none⟩ = some (.int .i64 0) := HB.out.cell 2
      go_wp2_with fail
      refine cT.mono ?_
      rintro e w10 ⟨rfl, hf⟩
      have HUx := Lib.hid (HU.out.fr0 hf)
      have HFx := Lib.hid (HF.out.trans0 hf)
      have HBx := Lib.hid (HB.out.fr hf fun h => h)
      clear HU HF HB cT hf r0 r1 r2
      have HU := HUx
      have HF := HFx
      have HB := HBx
      clear HUx HFx HBx
      have cT := HU.out.queue ps3 (by omega) ps_wf
      rw [show prs (queueL (LkS.mk 100 [⟨ps3, 1, 5⟩] (psW i 0)).H (LkS.mk 100 [⟨ps3, 1, 5⟩] (psW i 0)).W ps3) = prs (psW i 0) from (chkD_ok (show i < 21 by omega) (show 0 < i by omega)).2] at cT
      have r0 : w10.cell? ⟨w1.heap.size, 0, none⟩ = some (.int .i64 3) := HB.out.cell 0
      have r1 : w10.cell? ⟨w1.heap.size, 1, none⟩ = some (.bool false) := HB.out.cell 1
      have r2 : w10.cell? ⟨w1.heap.size, 2, none⟩ = some (.int .i64 0) := HB.out.cell 2
      go_wp2_with fail
      refine cT.mono ?_
      rintro e w11 ⟨v, rfl, h1, h2, hf⟩
      have hln := psW_len i
      obtain ⟨qa2, qc2, rfl⟩ := h1.shape
      rw [hln]
      clear h1 h2 hln
      have HUx := Lib.hid (HU.out.fr0 hf)
      have HFx := Lib.hid (HF.out.trans0 hf)
      have HBx := Lib.hid (HB.out.fr hf fun h => h)
      clear HU HF HB cT hf r0 r1 r2
      have HU := HUx
      have HF := HFx
      have HB := HBx
      clear HUx HFx HBx
      go_wp2_with fail
      go_loopw [20, 21] (fun vi _ wr => ∃ j : Nat, vi = .int .i64 (j : Int) ∧ j ≤ i ∧ Hid (LkU wr lb ⟨100, [⟨ps3, psLast j, 5⟩], psW i j⟩ 30 200 (AtA w.heap.size w1.heap.size)) ∧ Hid (Fr w wr Nil) ∧ Hid (Bk wr w1.heap.size 26 [.int .i64 3, .bool false, .int .i64 0])) (fun vi _ _ => i - (intOf vi).toNat)
      case atStart => exact ⟨0, by go_num, by omega, HU.out.more (by omega) (by omega), HF.out, HB.out⟩
      case round =>
        clear HU HF HB
        obtain ⟨j, rfl, hj, HU, HF, HB⟩ := hrel
        obtain ⟨w12, rfl⟩ : ∃ wo : World, wo = wr := ⟨_, rfl⟩
        by_cases hlj : j < i
        · have hjl : (j : Int) < (i : Int) := by omega
          have HD := Lib.hid (chkD_ok (show i < 21 by omega) hlj).1
          have hj0 : (0 : Int) ≤ (j : Int) := by omega
          by_cases hz : j = 0
          · have hz1 : ((j : Int) == 0) = true := by rw [beq_iff_eq]; omega
            subst hz
            have HD3 : Hid (leaveL ⟨100, [⟨ps3, 1, 5⟩], psW i 0⟩ 1 = ([10], ⟨100, [⟨ps3, 10, 5⟩], psW i 1⟩)) := HD
            have HUz : Hid (LkU w12 lb ⟨100, [⟨ps3, 1, 5⟩], psW i 0⟩ 30 200 (AtA w.heap.size w1.heap.size)) := HU
            clear HU HD
            have HU := HUz
            clear HUz
            have cL := HU.out.leave 1 (by omega) (by decide)
            rw [HD3.out] at cL
            go_wp2_with fail
            refine cL.mono ?_
            rintro e w13 ⟨v, rfl, h1, hU, hf⟩
            have HU2 := Lib.hid hU
            have HF2 : Hid (Fr w w13 Nil) := low_back HF.out hf fun k h => h.1
            have HB2 := Lib.hid (HB.out.fr hf fun h => h.2 rfl)
            have hfl := (Fr.refl w13 Nil).alloc (.cells #[.int .i64 10] 2)
            have cS := sameInts_any v (.slice (some ⟨w13.heap.size, 0, none⟩) 1 1) _ [10] _ (h1.at.fr hfl fun _ _ h => h) (lit1 w13 10) (by simp) (by simp)
            simp only [decide_true] at cS
            obtain ⟨va, vc, rfl⟩ := h1.shape
            have HFL := Lib.hid hfl
            clear HU HF HB cL h1 hU hf hfl
            go_wp2_with fail
            refine cS.mono ?_
            rintro e w14 ⟨rfl, hf⟩
            have HU := Lib.hid ((HU2.out.fr0 HFL.out).fr0 hf)
            have HF := Lib.hid ((HF2.out.trans0 HFL.out).trans0 hf)
            have HB := Lib.hid ((HB2.out.fr HFL.out fun h => h).fr hf fun h => h)
            clear HU2 HF2 HB2 HFL cS hf
            have cT := HU.out.held 10 ps3 (by decide) ps_wf
            rw [show heldL (LkS.mk 100 [⟨ps3, 10, 5⟩] (psW i 1)).H 10 ps3 = 5 from by kernel_rfl] at cT
            have r0 : w14.cell? ⟨w1.heap.size, 0, none⟩ = some (.int .i64 3) := HB.out.cell 0
            have r1 : w14.cell? ⟨w1.heap.size, 1, none⟩ = some (.bool false) := HB.out.cell 1
            have r2 : w14.cell? ⟨w1.heap.size, 2, none⟩ = some (.int .i64 0) := HB.out.cell 2
            go_wp2_with fail
            refine cT.mono ?_
            rintro e w15 ⟨rfl, hf⟩
            have HUx := Lib.hid (HU.out.fr0 hf)
            have HFx := Lib.hid (HF.out.trans0 hf)
            have HBx := Lib.hid (HB.out.fr hf fun h => h)
            clear HU HF HB cT hf r0 r1 r2
            have HU := HUx
            have HF := HFx
            have HB := HBx
            clear HUx HFx HBx
            go_wp2_with fail
            go_roundw
            case rel => exact ⟨1, by go_num, by omega, HU.out, HF.out, HB.out⟩
            case measure => simp [intOf]; omega
          · have hz1 : ((j : Int) == 0) = false := by rw [beq_eq_false_iff_ne]; omega
            have hlast : psLast j = (9 + (j : Int)) := by unfold psLast; rw [if_neg hz]
            have HD2 := HD.out
            rw [hlast] at HD2
            have HUy := HU.out
            rw [hlast] at HUy
            have HUz := Lib.hid HUy
            clear HU HUy hlast
            have HU := HUz
            clear HUz
            have HD3 := Lib.hid HD2
            clear HD2 HD
            have cL := HU.out.leave (9 + (j : Int)) (by omega) (i64_wf (by omega) (by omega))
            rw [HD3.out] at cL
            go_wp2_with fail
            refine cL.mono ?_
            rintro e w13 ⟨v, rfl, h1, hU, hf⟩
            have HU2 := Lib.hid hU
            have HF2 : Hid (Fr w w13 Nil) := low_back HF.out hf fun k h => h.1
            have HB2 := Lib.hid (HB.out.fr hf fun h => h.2 rfl)
            have hfl := (Fr.refl w13 Nil).alloc (.cells #[.int .i64 (10 + (j : Int))] 2)
            have cS := sameInts_any v (.slice (some ⟨w13.heap.size, 0, none⟩) 1 1) _ [(10 + (j : Int))] _ (h1.at.fr hfl fun _ _ h => h) (lit1 w13 (10 + (j : Int))) (by simp) (by simp)
            simp only [decide_true] at cS
            obtain ⟨va, vc, rfl⟩ := h1.shape
            have HFL := Lib.hid hfl
            clear HU HF HB cL h1 hU hf hfl
            go_wp2_with fail
            refine cS.mono ?_
            rintro e w14 ⟨rfl, hf⟩
            have HU := Lib.hid ((HU2.out.fr0 HFL.out).fr0 hf)
            have HF := Lib.hid ((HF2.out.trans0 HFL.out).trans0 hf)
            have HB := Lib.hid ((HB2.out.fr HFL.out fun h => h).fr hf fun h => h)
            clear HU2 HF2 HB2 HFL cS hf
            have cT := HU.out.held (10 + (j : Int)) ps3 (i64_wf (by omega) (by omega)) ps_wf
            rw [show heldL (LkS.mk 100 [⟨ps3, 10 + (j : Int), 5⟩] (psW i (j + 1))).H (10 + (j : Int)) ps3 = 5 from by simp [heldL]] at cT
            have r0 : w14.cell? ⟨w1.heap.size, 0, none⟩ = some (.int .i64 3) := HB.out.cell 0
            have r1 : w14.cell? ⟨w1.heap.size, 1, none⟩ = some (.bool false) := HB.out.cell 1
            have r2 : w14.cell? ⟨w1.heap.size, 2, none⟩ = some (.int .i64 0) := HB.out.cell 2
            go_wp2_with fail
            refine cT.mono ?_
            rintro e w15 ⟨rfl, hf⟩
            have HUx := Lib.hid (HU.out.fr0 hf)
            have HFx := Lib.hid (HF.out.trans0 hf)
            have HBx := Lib.hid (HB.out.fr hf fun h => h)
            clear HU HF HB cT hf r0 r1 r2
            have HU := HUx
            have HF := HFx
            have HB := HBx
            clear HUx HFx HBx
            go_wp2_with fail
            go_roundw
            case rel => exact ⟨j + 1, by go_num, by omega, (by rw [psLast_next]; exact HU.out), HF.out, HB.out⟩
            case measure => simp [intOf]; omega
        · obtain rfl : j = i := by omega
          go_wp2_with fail
          refine (works_any w12).mono ?_
          rintro e w9 ⟨rfl, hf9⟩
          have HF9 := Lib.hid (HF.out.trans0 hf9)
          clear hf9
          go_wp2_with fail
          go_ret
          exact ⟨rfl, HF9.out⟩
theorem lpass_any (c : Int) (b1 b2 : Bool) (w : World) (hc : 0 ≤ c ∧ c < 256) :
    Calls Try.prog 3 #[.int .u8 c, .bool b1, .bool b2] w fun e w' => e = .returned (.bool true) ∧ Fr w w' Nil := by
  have h1 := Int.tmod_eq_emod_of_nonneg (b := 20) hc.1
  obtain ⟨q0, hq⟩ : ∃ q0 : Nat, c.tmod 20 = (q0 : Int) := ⟨(c.tmod 20).toNat, by omega⟩
  have hq2 : q0 < 20 := by omega
  cases b2 <;> cases b1
  · exact lpass_1a c w q0 hq hq2
  · exact lpass_1b c w q0 hq hq2
  · exact lpass_3a c w q0 hq hq2
  · exact lpass_3b c w q0 hq hq2
end Go.Proofs.Ytecffdgnmnpmbaa
