/-
  Walk of the document's Ask.
  No condition but sizes.
  Walk of the document's Less; a spot at its place in a sorted row.
  No condition.
-/
import Derived.Test.YtokeciekncincabGreatPkC35
import Derived.Deep.CutBlock
namespace Go.Proofs.YtokeciekncincabGreat
open Go Go.RowKit Go.Maps

theorem known_dk (m : Int) (w : World) : Calls Tryz.prog 66 #[.int .u8 m] w fun e w' => e = .returned (.bool (decide (m ≤ 5))) ∧ w' = w := by
  go_enter Tryz.func66, Tryz.ntmps66
  go_wp2_with fail
  go_ret
  exact ⟨rfl, by first | rfl | trivial⟩
theorem heldM_ok {H : List LkE} (h : ∀ e ∈ H, ModeOk e.m) (who : Int) (s : Spot) : ModeOk (heldL H who s) := by
  unfold heldL
  cases hf : H.find? (fun e => e.who == who && e.s == s) with
  | none => exact ⟨by decide, by decide⟩
  | some e => exact h e (List.mem_of_find?_eq_some hf)
theorem ask_bad {D : LkS} {who m : Int} {s : Spot} (h : mayL s m = false) : askL D who s m = ((false, 2), D) := by unfold askL; rw [if_pos h]
theorem ask_waits {D : LkS} {who m : Int} {s : Spot} (h : mayL s m = true) (h2 : (wishL D.W who).isSome = true) : askL D who s m = ((false, 4), D) := by
  unfold askL; rw [if_neg (by rw [h]; decide), if_pos h2]
theorem ask_cov {D : LkS} {who m : Int} {s : Spot} (h : mayL s m = true) (h2 : (wishL D.W who).isSome = false) (h3 : covM (heldL D.H who s) m = true) : askL D who s m = ((true, 0), D) := by
  unfold askL; rw [if_neg (by rw [h]; decide), if_neg (by rw [h2]; decide), if_pos h3]
theorem ask_full {D : LkS} {who m : Int} {s : Spot} (h : mayL s m = true) (h2 : (wishL D.W who).isSome = false) (h3 : covM (heldL D.H who s) m = false) (h4 : decide (heldL D.H who s = 0 ∧ D.most ≤ (usedL D : Int)) = true) : askL D who s m = ((false, 3), D) := by
  unfold askL; rw [if_neg (by rw [h]; decide), if_neg (by rw [h2]; decide), if_neg (by rw [h3]; decide), if_pos (of_decide_eq_true h4)]
def goL (D : LkS) (who : Int) (s : Spot) (j : Int) : Bool := canL D.H who s j && (heldL D.H who s != 0 || (queueL D.H D.W s).isEmpty)
theorem goL_iff {D : LkS} {who j : Int} {s : Spot} : (canL D.H who s j = true ∧ (heldL D.H who s ≠ 0 ∨ queueL D.H D.W s = [])) ↔ goL D who s j = true := by
  unfold goL
  rw [Bool.and_eq_true, Bool.or_eq_true, bne_iff_ne, List.isEmpty_iff]
theorem ask_go {D : LkS} {who m : Int} {s : Spot} (h : mayL s m = true) (h2 : (wishL D.W who).isSome = false) (h3 : covM (heldL D.H who s) m = false) (h4 : decide (heldL D.H who s = 0 ∧ D.most ≤ (usedL D : Int)) = false) (h5 : goL D who s (joinM (heldL D.H who s) m) = true) :
    askL D who s m = ((true, 0), { D with H := putH D.H who s (joinM (heldL D.H who s) m) }) := by
  unfold askL; rw [if_neg (by rw [h]; decide), if_neg (by rw [h2]; decide), if_neg (by rw [h3]; decide), if_neg (of_decide_eq_false h4), if_pos (goL_iff.2 h5)]
theorem ask_wait {D : LkS} {who m : Int} {s : Spot} (h : mayL s m = true) (h2 : (wishL D.W who).isSome = false) (h3 : covM (heldL D.H who s) m = false) (h4 : decide (heldL D.H who s = 0 ∧ D.most ≤ (usedL D : Int)) = false) (h5 : goL D who s (joinM (heldL D.H who s) m) = false) :
    askL D who s m = ((false, 0), { D with W := D.W ++ [⟨s, who, joinM (heldL D.H who s) m⟩] }) := by
  unfold askL; rw [if_neg (by rw [h]; decide), if_neg (by rw [h2]; decide), if_neg (by rw [h3]; decide), if_neg (of_decide_eq_false h4), if_neg (fun hc => by rw [goL_iff.1 hc] at h5; cases h5)]
theorem may_ok {s : Spot} {m : Int} (h : mayL s m = true) : ModeOk m ∧ m ≠ 0 := by
  unfold mayL at h
  simp only [Bool.and_eq_true, decide_eq_true_eq, bne_iff_ne] at h
  exact ⟨⟨h.1.1.1.1, h.1.1.1.2⟩, h.1.1.2⟩
theorem may_bits {s : Spot} {m : Int} (hm : 0 ≤ m) : (!mayL s m) = (!decide (m ≤ 5) || m == 0 || (!s.2.1 && s.2.2 != 0) || decide (s.1 < 0)) := by
  unfold mayL
  have h1 : decide (0 ≤ m) = true := by simpa using hm
  have h2 : decide (0 ≤ s.1) = !decide (s.1 < 0) := by
    by_cases h : s.1 < 0
    · simp [h]
    · simp [h]; omega
  have h3 : (m != 0) = !(m == 0) := rfl
  have h4 : (s.2.2 != 0) = !(s.2.2 == 0) := rfl
  rw [h1, h2, h3, h4]
  cases decide (m ≤ 5) <;> cases (m == 0) <;> cases s.2.1 <;> cases (s.2.2 == 0) <;> cases decide (s.1 < 0) <;> rfl
def AskDk (w : World) (S : Nat → Prop) (mb : Nat) (R : (Bool × Int) × LkS) (e : Ending) (w' : World) : Prop := e = .returned (.tuple #[.bool R.1.1, .int .i64 R.1.2]) ∧ DkN w S mb R.2 w'
set_option maxRecDepth 100000 in
set_option maxHeartbeats 4000000 in
theorem rask_any {mb : Nat} {D : LkS} {S : Nat → Prop} (who : Int) (s : Spot) {m : Int} (hm : 0 ≤ m) (w : World) (h : DkA w mb D S) (hB : DkB D 1) :
    Calls Tryz.prog 32 #[mkp mb, .int .i64 who, spV s, .int .u8 m] w (AskDk w S mb (askL D who s m)) := by
  obtain ⟨w0, hw0⟩ : ∃ w0, w.alloc (.cells #[.int .i64 s.1, .bool s.2.1, .int .i64 s.2.2] 30) = w0 := ⟨_, rfl⟩
  have hf0 : Fr w w0 Nil := by rw [← hw0]; exact (Fr.refl w Nil).alloc _
  have hb0 : Bk w0 w.heap.size 30 [.int .i64 s.1, .bool s.2.1, .int .i64 s.2.2] := by rw [← hw0]; exact Bk.new w _ _
  have HX : Hid (¬ S w.heap.size) := fun hk => by have := h.lt _ hk; omega
  have HA := Lib.hid (h.fr0 hf0)
  have HDB := Lib.hid hB
  have hhl : D.H.length ≤ 900000 := by have := hB.2.2.1; omega
  have hwl : D.W.length ≤ 900000 := hB.2.2.2
  have HF0 := Lib.hid hf0
  have HB0 := Lib.hid hb0
  have r0 := hb0.cell 0
  have r1 := hb0.cell 1
  have r2 := hb0.cell 2
  have cH := rheld_any who s w0 HA.out (by omega)
  obtain ⟨hd, hhd⟩ : ∃ hd, heldL D.H who s = hd := ⟨_, rfl⟩
  have HHD := Lib.hid hhd
  have HHO : Hid (ModeOk hd) := by have h9 : ModeOk hd := (by rw [← hhd]; exact heldM_ok hB.1 who s); exact h9
  rw [hhd] at cH
  have cK := known_dk m
  obtain ⟨R, hR⟩ : ∃ R, askL D who s m = R := ⟨_, rfl⟩
  rw [hR]
  have HR := Lib.hid hR.symm
  have HM := Lib.hid hm
  clear h hf0 hb0 hB hR hhd
  go_enter Tryz.func32, Tryz.ntmps32
  go_wp2_with fail
  refine cH.mono ?_
  rintro e w1 ⟨rfl, hf1⟩
  have HF1 := Lib.hid (HF0.out.trans0 hf1)
  have HA1 := Lib.hid (HA.out.fr0 hf1)
  have HB1 := Lib.hid (HB0.out.fr hf1 fun h => h)
  clear cH r0 r1 r2 hf1
  have r0 := HB1.out.cell 0
  have r1 := HB1.out.cell 1
  have r2 := HB1.out.cell 2
  obtain ⟨may, hmay⟩ : ∃ b, mayL s m = b := ⟨_, rfl⟩
  have HMAY := Lib.hid hmay
  clear hmay
  go_upto_region 2 with fail
  go_cut [16] from 17 to 38 (fun v16 wx => v16 = .bool (!may) ∧ wx = w1)
  case first =>
    have HBT := Lib.hid (may_bits (s := s) HM.out)
    rw [HMAY.out] at HBT
    obtain ⟨s1, s2, s3⟩ := s
    generalize hk5 : decide (m ≤ 5) = k5 at *
    have hne : (s3 != 0) = !(s3 == 0) := rfl
    cases k5 with
    | false =>
      go_wp2_with fail
      refine (cK _).mono ?_
      rintro e w2 ⟨rfl, rfl⟩
      go_wp2_with fail
      go_meet
      exact ⟨by rw [HBT.out]; rfl, rfl⟩
    | true =>
      cases hm0 : (m == 0) with
      | true =>
        go_wp2_with fail
        refine (cK _).mono ?_
        rintro e w2 ⟨rfl, rfl⟩
        go_wp2_with fail
        go_meet
        exact ⟨by rw [HBT.out, hm0]; rfl, rfl⟩
      | false =>
        have fin : ∀ b : Bool, ((!s2 && s3 != 0) || decide (s1 < 0)) = b → (!may) = b := fun b hb => by
          rw [HBT.out, hm0, ← hb]; rfl
        have HFIN := Lib.hid fin
        clear fin
        cases s2 with
        | true =>
          go_wp2_with fail
          refine (cK _).mono ?_
          rintro e w2 ⟨rfl, rfl⟩
          go_wp2_with fail
          go_meet
          exact ⟨by rw [HFIN.out _ rfl]; rfl, rfl⟩
        | false =>
          cases hk0 : (s3 == 0) with
          | true =>
            rw [hk0] at hne
            go_wp2_with fail
            refine (cK _).mono ?_
            rintro e w2 ⟨rfl, rfl⟩
            go_wp2_with fail
            go_meet
            exact ⟨by rw [HFIN.out _ rfl, hne]; rfl, rfl⟩
          | false =>
            rw [hk0] at hne
            go_wp2_with fail
            refine (cK _).mono ?_
            rintro e w2 ⟨rfl, rfl⟩
            go_wp2_with fail
            go_meet
            exact ⟨by rw [HFIN.out _ rfl, hne]; rfl, rfl⟩
  case rest =>
    obtain ⟨rfl, hwc⟩ := hcut
    subst hwc
    obtain ⟨w1, rfl⟩ : ∃ w1, w1 = wc := ⟨_, rfl⟩
    have HEND : Hid (∀ w', Fr w1 w' Nil → DkN w S mb D w') := fun w' hf => DkN.ahead HF1.out (DkN.same HA1.out hf)
    cases may with
    | false =>
      have hRR := HR.out
      rw [ask_bad HMAY.out] at hRR
      subst hRR
      go_wp2_with fail
      go_ret2
      exact ⟨rfl, HEND.out _ (Fr.refl _ _)⟩
    | true =>
      have HMO := Lib.hid (may_ok HMAY.out).1
      have cW := rwish_any who w1 HA1.out (by omega)
      clear cK
      go_wp2_with fail
      refine cW.mono ?_
      rintro e w2 ⟨r, rfl, hr, hw2⟩
      subst hw2
      obtain ⟨w1, rfl⟩ : ∃ w1, w1 = w2 := ⟨_, rfl⟩
      clear cW
      rcases hr with ⟨rfl, hn⟩ | ⟨i, e, rfl, he, hs⟩
      · have HWN : Hid ((wishL D.W who).isSome = false) := Lib.hid (by rw [hn]; rfl)
        have cC := covs_any HHO.out HMO.out
        unfold CovsAt at cC
        obtain ⟨cv, hcv⟩ : ∃ cv, covM hd m = cv := ⟨_, rfl⟩
        rw [hcv] at cC
        have HCV : Hid (covM (heldL D.H who s) m = cv) := Lib.hid (by rw [HHD.out]; exact hcv)
        clear hn hcv
        go_wp2_with fail
        refine (cC _).mono ?_
        rintro e w2 ⟨rfl, hw2⟩
        subst hw2
        obtain ⟨w1, rfl⟩ : ∃ w1, w1 = w2 := ⟨_, rfl⟩
        clear cC
        cases cv with
        | true =>
          have hRR := HR.out
          rw [ask_cov HMAY.out HWN.out HCV.out] at hRR
          subst hRR
          go_wp2_with fail
          go_ret2
          exact ⟨rfl, HEND.out _ (Fr.refl _ _)⟩
        | false =>
          go_upto_region 8 with fail
          obtain ⟨fu, hfu⟩ : ∃ b, decide (heldL D.H who s = 0 ∧ D.most ≤ (usedL D : Int)) = b := ⟨_, rfl⟩
          have HFU := Lib.hid hfu
          clear hfu
          go_cut [48] from 49 to 59 (fun v48 wx => v48 = .bool fu ∧ Fr w1 wx Nil)
          case first =>
            have hSa : KeptN w1 w1.drew := KeptN.start w1
            have hF := HFU.out
            rw [HHD.out] at hF
            cases hz : (hd == 0) with
            | true =>
              obtain ⟨hv1, wv1, hg⟩ := HA1.out
              have k0 : ∀ w', KeptN w1 w' → w'.cell? ⟨mb, 0, none⟩ = some (.int .i64 D.most) := KeptN.cell (hg.root.cell 0)
              have cU := fun (w' : World) (hf : Fr w1 w' Nil) => rused_any w' (HA1.out.fr0 hf) (by omega) (by omega)
              generalize usedL D = un at *
              clear hg
              refine wp_region_sink 12 (KeptN w1) (by kernel_rfl) ?_
              refine tkA 0 hSa ?_
              refine tkA 1 hSa ?_
              refine tkA 2 hSa ?_
              refine tkA 3 hSa ?_
              refine tkA 5 hSa ?_
              refine tkA 6 hSa ?_
              refine tkA 7 hSa ?_
              try simp only [Act.put, sA, sB, sC]
              refine tkA 8 hSa ?_ (hy := by intro _ w; have ck0 := k0 _ w; go_simp <;> with_reducible rfl)
              try simp only [Act.put, sA, sB, sC]
              refine on1 4 fun K hK => ?_
              go_simp
              refine (cU _ hSa).mono ?_
              rintro e w4 ⟨rfl, hf4⟩
              have hSb : KeptN w1 w4 := hSa.next hf4
              refine hK.out _ _ hSb ?_
              clear hK K
              try simp only [Act.put, sA, sB, sC]
              refine tkA 9 hSb ?_
              refine tkA 10 hSb ?_
              refine tkA 11 hSb ?_
              try simp only [Act.put, sA, sB, sC]
              refine wpAnyS_done (by kernel_rfl) ?_
              go_wp2_with fail
              go_meet
              refine ⟨?_, hSb.fr⟩
              rw [← hF]
              rw [beq_iff_eq] at hz
              simp [hz]
            | false =>
              refine wp_region_sink 12 (KeptN w1) (by kernel_rfl) ?_
              refine tkA 0 hSa ?_
              refine tkA 1 hSa ?_
              refine tkA 2 hSa ?_
              try simp only [Act.put, sA, sB, sC]
              refine skA 3 hSa ?_
              try simp only [Act.put, sA, sB, sC]
              refine skA 4 hSa ?_
              try simp only [Act.put, sA, sB, sC]
              refine skA 5 hSa ?_
              try simp only [Act.put, sA, sB, sC]
              refine skA 6 hSa ?_
              try simp only [Act.put, sA, sB, sC]
              refine skA 7 hSa ?_
              try simp only [Act.put, sA, sB, sC]
              refine skA 8 hSa ?_
              try simp only [Act.put, sA, sB, sC]
              refine skA 9 hSa ?_
              try simp only [Act.put, sA, sB, sC]
              refine tkA 10 hSa ?_
              refine tkA 11 hSa ?_
              try simp only [Act.put, sA, sB, sC]
              refine wpAnyS_done (by kernel_rfl) ?_
              go_wp2_with fail
              go_meet
              refine ⟨?_, hSa.fr⟩
              rw [← hF]
              rw [beq_eq_false_iff_ne] at hz
              simp [hz]
          case rest =>
            obtain ⟨rfl, hf5⟩ := hcut
            obtain ⟨w5, rfl⟩ : ∃ w5, w5 = wc := ⟨_, rfl⟩
            have HA5 := Lib.hid (HA1.out.fr0 hf5)
            have HB5 := Lib.hid (HB1.out.fr hf5 fun h => h)
            have HF5 := Lib.hid (HF1.out.trans0 hf5)
            clear hf5 HEND HA1 HB1 HF1 r0 r1 r2
            cases fu with
            | true =>
              have hRR := HR.out
              rw [ask_full HMAY.out HWN.out HCV.out HFU.out] at hRR
              subst hRR
              go_wp2_with fail
              go_ret2
              exact ⟨rfl, DkN.ahead HF5.out (DkN.same HA5.out (Fr.refl _ _))⟩
            | false =>
              obtain ⟨w6, hw6⟩ : ∃ w6, w5.alloc (.cells #[.int .u8 hd, .int .u8 m] 31) = w6 := ⟨_, rfl⟩
              have hf6 : Fr w5 w6 Nil := by rw [← hw6]; exact (Fr.refl w5 Nil).alloc _
              have hb6 : Bk w6 w5.heap.size 31 [.int .u8 hd, .int .u8 m] := by rw [← hw6]; exact Bk.new w5 _ _
              have cJ := rjoin_any HHO.out HMO.out w5.heap.size w6 (hb6.cell 0) (hb6.cell 1)
              have HJO := Lib.hid (joinM_ok HHO.out HMO.out).1
              obtain ⟨j, hj⟩ : ∃ j, joinM hd m = j := ⟨_, rfl⟩
              have HJ : Hid (joinM (heldL D.H who s) m = j) := Lib.hid (by rw [HHD.out]; exact hj)
              rw [hj] at cJ HJO
              have HF56 := Lib.hid hf6
              clear hf6 hb6 hj
              go_wp2_with fail
              try rw [hw6]
              refine cJ.mono ?_
              rintro e w7 ⟨rfl, hf7⟩
              have HA7 := Lib.hid ((HA5.out.fr0 HF56.out).fr0 hf7)
              have HB7 := Lib.hid ((HB5.out.fr HF56.out fun h => h).fr hf7 fun h => h)
              have HF7 := Lib.hid ((HF5.out.trans0 HF56.out).trans0 hf7)
              clear hf7 HA5 HB5 HF5 HF56 cJ hw6
              obtain ⟨go, hgo⟩ : ∃ go, goL D who s j = go := ⟨_, rfl⟩
              have HGO : Hid (goL D who s (joinM (heldL D.H who s) m) = go) := Lib.hid (by rw [HJ.out]; exact hgo)
              have HGB : Hid ((canL D.H who s j && (hd != 0 || (queueL D.H D.W s).isEmpty)) = go) := Lib.hid (by rw [← HHD.out]; exact hgo)
              clear hgo
              have r0 := HB7.out.cell 0
              have r1 := HB7.out.cell 1
              have r2 := HB7.out.cell 2
              go_upto_region 11 with fail
              go_cut [79] from 64 to 79 (fun v79 wx => v79 = .bool go ∧ Fr w7 wx Nil)
              case first =>
                have cC := rcan_any who s HJO.out w7 HA7.out (by omega) HDB.out.1
                obtain ⟨cc, hcc⟩ : ∃ cc, canL D.H who s j = cc := ⟨_, rfl⟩
                rw [hcc] at cC
                have HG := HGB.out
                rw [hcc] at HG
                have HGC := Lib.hid HG
                clear HG hcc
                go_wp2_with fail
                refine cC.mono ?_
                rintro e w8 ⟨rfl, hf8⟩
                have HF8 := Lib.hid hf8
                have HA8 := Lib.hid (HA7.out.fr0 hf8)
                have hb8 := HB7.out.fr hf8 fun h => h
                have s0 := hb8.cell 0
                have s1 := hb8.cell 1
                have s2 := hb8.cell 2
                clear cC hf8 hb8 r0 r1 r2
                cases cc with
                | false =>
                  go_wp2_with fail
                  go_meet
                  exact ⟨by rw [← HGC.out]; rfl, HF8.out⟩
                | true =>
                  have hne : (hd != 0) = !(hd == 0) := rfl
                  cases hz : (hd == 0) with
                  | false =>
                    rw [hz] at hne
                    go_wp2_with fail
                    go_meet
                    exact ⟨by rw [← HGC.out, hne]; rfl, HF8.out⟩
                  | true =>
                    rw [hz] at hne
                    have cQ := rqueue_any s w8 HA8.out (by omega) (by omega)
                    go_wp2_with fail
                    refine cQ.mono ?_
                    rintro e w9 ⟨qv, rfl, hq, hf9⟩
                    obtain ⟨qa, qc, rfl⟩ := hq.1.shape
                    have HF9 := Lib.hid hf9
                    clear cQ hq hf9
                    have HQE : Hid ((queueL D.H D.W s).isEmpty = decide (((queueL D.H D.W s).length : Int) = 0)) := by
                      show _ = _
                      cases queueL D.H D.W s with
                      | nil => rfl
                      | cons e q => rw [List.length_cons, List.isEmpty_cons]; symm; rw [decide_eq_false_iff_not]; omega
                    have hg := HGC.out
                    rw [hne, HQE.out] at hg
                    have HG2 := Lib.hid hg
                    clear hg
                    go_wp2_with fail
                    go_meet
                    refine ⟨?_, HF8.out.trans0 HF9.out⟩
                    rw [← HG2.out]
                    generalize queueL D.H D.W s = ql
                    cases ql with
                    | nil => rfl
                    | cons x l =>
                      have h1 : ¬ (((x :: l).length : Nat) : Int) = 0 := by rw [List.length_cons]; omega
                      have h2 : ((((x :: l).length : Nat) : Int) == 0) = false := by rw [beq_eq_false_iff_ne]; exact h1
                      rw [h2, decide_eq_false h1]
                      rfl
              case rest =>
                obtain ⟨rfl, hf9⟩ := hcut
                obtain ⟨w9, rfl⟩ : ∃ w9, w9 = wc := ⟨_, rfl⟩
                have HA9 := Lib.hid (HA7.out.fr0 hf9)
                have HB9 := Lib.hid (HB7.out.fr hf9 fun h => h)
                have HF9 := Lib.hid (HF7.out.trans0 hf9)
                clear hf9 HA7 HB7 HF7 r0 r1 r2
                cases go with
                | true =>
                  have hRR := HR.out
                  rw [ask_go HMAY.out HWN.out HCV.out HFU.out HGO.out, HJ.out] at hRR
                  subst hRR
                  have r0 := HB9.out.cell 0
                  have r1 := HB9.out.cell 1
                  have r2 := HB9.out.cell 2
                  have cL := rholds_any who s j w9 HA9.out (by omega)
                  go_wp2_with fail
                  refine cL.mono ?_
                  rintro e wA ⟨rfl, hN⟩
                  have HN := Lib.hid (DkN.ahead HF9.out hN)
                  clear cL hN r0 r1 r2
                  go_wp2_with fail
                  go_ret2
                  exact ⟨rfl, HN.out⟩
                | false =>
                  have hRR := HR.out
                  rw [ask_wait HMAY.out HWN.out HCV.out HFU.out HGO.out, HJ.out] at hRR
                  obtain ⟨hv1, wv1, hg⟩ := HA9.out
                  obtain ⟨wa, wc2, rfl⟩ := hg.wishes.shape
                  have HG := Lib.hid hg
                  obtain ⟨wl, hwl2⟩ : ∃ wl, D.W.length = wl := ⟨_, rfl⟩
                  have hbx : ∀ k, (Value.slice wa wl wc2).ownBlock = some k → k ≠ w.heap.size := fun k hk e => HX.out (by rw [← e]; exact hg.inW k (by rw [hwl2]; exact hk))
                  have hbm : (Value.slice wa wl wc2).ownBlock ≠ some mb := by rw [← hwl2]; exact hg.wx
                  have k1 : ∀ w', KeptR (fun k => (Value.slice wa wl wc2).ownBlock = some k) w9 w' → w'.cell? ⟨w.heap.size, 0, none⟩ = some (.int .i64 s.1) := KeptR.cell (HB9.out.cell 0) (fun e => hbx _ e rfl)
                  have k2 : ∀ w', KeptR (fun k => (Value.slice wa wl wc2).ownBlock = some k) w9 w' → w'.cell? ⟨w.heap.size, 1, none⟩ = some (.bool s.2.1) := KeptR.cell (HB9.out.cell 1) (fun e => hbx _ e rfl)
                  have k3 : ∀ w', KeptR (fun k => (Value.slice wa wl wc2).ownBlock = some k) w9 w' → w'.cell? ⟨w.heap.size, 2, none⟩ = some (.int .i64 s.2.2) := KeptR.cell (HB9.out.cell 2) (fun e => hbx _ e rfl)
                  have k4 : ∀ w', KeptR (fun k => (Value.slice wa wl wc2).ownBlock = some k) w9 w' → w'.cell? ⟨mb, 2, none⟩ = some (.slice wa wl wc2) := KeptR.cell (by rw [← hwl2]; exact hg.root.cell 2) hbm
                  have HWO : Hid (w9.ownsRow 0 96 5 (.slice wa wl wc2) wl (D.W.flatMap ent5)) := by
                    have h9 := hg.wishes
                    unfold OwnE at h9
                    rw [hwl2] at h9
                    exact h9
                  have HLB : Hid (wl + 1 ≤ 1000000) := by have h9 : wl + 1 ≤ 1000000 := (by omega); exact h9
                  have HON1 := Lib.hid (ent_one ⟨s, who, j⟩)
                  have HWL := Lib.hid hwl2
                  clear hg hbx hbm hwl2
                  go_wp2_with fail
                  refine wp_region_sink 13 (KeptR (fun k => (Value.slice wa wl wc2).ownBlock = some k) w9) (by kernel_rfl) ?_
                  have hSa : KeptR (fun k => (Value.slice wa wl wc2).ownBlock = some k) w9 w9.drew := (KeptN.start w9).weak _
                  refine tk 0 hSa ?_
                  refine tk 1 hSa ?_
                  refine tk 2 hSa ?_
                  refine tk 3 hSa ?_
                  try simp only [Act.put, sA, sB, sC]
                  refine tk 4 hSa ?_ (hy := by intro _ w; have ck4 := k4 _ w; go_simp <;> with_reducible rfl)
                  try simp only [Act.put, sA, sB, sC]
                  refine tk 5 hSa ?_ (hy := by intro _ w; have ck1 := k1 _ w; have ck2 := k2 _ w; have ck3 := k3 _ w; go_simp <;> with_reducible rfl)
                  try simp only [Act.put, sA, sB, sC]
                  refine tk 6 hSa ?_
                  refine tk 7 hSa ?_
                  refine tk 8 hSa ?_
                  try simp only [Act.put, sA, sB, sC]
                  refine on1 9 fun K hK => ?_
                  go_simp
                  obtain ⟨wA, hwA⟩ : ∃ z, (w9.alloc (.cells #[.int .i64 s.1, .bool s.2.1, .int .i64 s.2.2, .int .i64 who, .int .u8 j] 96)).drew = z := ⟨_, rfl⟩
                  try rw [hwA]
                  have hfwA : Fr w9 wA Nil := by rw [← hwA]; exact ((Fr.refl w9 Nil).alloc _).drew
                  have hsl : SlAt wA 5 (.slice (some ⟨w9.heap.size, 0, none⟩) 1 1) 1 (ent5 ⟨s, who, j⟩) := by rw [← hwA]; exact ent_new w9 ⟨s, who, j⟩
                  have hSb : KeptR (fun k => (Value.slice wa wl wc2).ownBlock = some k) w9 wA := hfwA.of_nil
                  refine hK.out _ _ hSb ?_
                  clear hK K
                  try simp only [Act.put, sA, sB, sC]
                  have hown : wA.ownsRow 0 96 5 (.slice wa wl wc2) wl (D.W.flatMap ent5) := by
                    have h9 := HG.out.wishes.fr hfwA (fun _ _ h => h)
                    unfold OwnE at h9
                    rw [HWL.out] at h9
                    exact h9
                  refine on1 10 fun K hK => ?_
                  refine wp_app _ _ _ 60 rfl entT (.slice wa wl wc2) rfl hown (.slice (some ⟨w9.heap.size, 0, none⟩) 1 1) rfl hsl HON1.out HLB.out ?_
                  intro ga gc W4 ho4 hg4 hb4
                  have hSc : KeptR (fun k => (Value.slice wa wl wc2).ownBlock = some k) w9 W4 := Fr.grown hSb hg4 fun k hk _ => hk
                  have hv4 : OwnE W4 (.slice ga (wl + 1) gc) (D.W ++ [⟨s, who, j⟩]) := OwnE.snoc HWL.out ho4
                  have hfresh : ∀ k, (Value.slice ga (wl + 1) gc).ownBlock = some k → (Value.slice wa wl wc2).ownBlock = some k ∨ w9.heap.size ≤ k := fun k hk => by
                    rcases hb4 with h | h
                    · exact .inl (h.symm.trans hk)
                    · rw [h] at hk
                      cases hk
                      exact .inr hfwA.size
                  refine hK.out _ _ hSc ?_
                  clear hK K
                  try simp only [Act.put, sA, sB, sC]
                  refine tk 11 hSc ?_
                  refine tk 12 hSc ?_
                  try simp only [Act.put, sA, sB, sC]
                  have hrt := HG.out.root.fr hSc fun h => HG.out.wx (by rw [HWL.out]; exact h)
                  have c2 := hrt.cell 2
                  have f2 := hrt.free 2
                  refine wpAnyS_last (i := 13) rfl (by kernel_rfl) (by decide) (by kernel_rfl) (by rfl) fun K hK => ?_
                  go_simp
                  refine hK.out _ _ ?_
                  clear hK K
                  have hend := HG.out.setW hSc (fun k h => by rw [HWL.out]; exact h) hv4 (fun k hk => by rw [HWL.out]; exact hfresh k hk)
                  have HEND : Hid (DkN w S mb R.2 (W4.setCell ⟨mb, 2, none⟩ (.slice ga (wl + 1) gc))) := by
                    refine DkN.ahead HF9.out ?_
                    rw [hRR]
                    refine ⟨_, ⟨_, _, hend.1⟩, hend.2, fun k hk => ?_⟩
                    rcases hk with h | h
                    · exact .inl h
                    · rcases hfresh k h with h | h
                      · exact .inl (HG.out.inW k (by rw [HWL.out]; exact h))
                      · exact .inr h
                  have hR1 : R.1.1 = false := by rw [hRR]
                  have hR2 : R.1.2 = 0 := by rw [hRR]
                  clear hend hrt c2 f2 hSa hSb hSc hv4 hfresh hown ho4 hg4 hb4 hwA hsl hfwA k1 k2 k3 k4
                  go_wp2_with fail
                  go_ret2
                  exact ⟨by rw [hR1, hR2]; rfl, HEND.out⟩
      · have HWS : Hid ((wishL D.W who).isSome = true) := Lib.hid (by rw [hs]; rfl)
        have hge : ((i : Nat) : Int) ≥ 0 := by omega
        have hRR := HR.out
        rw [ask_waits HMAY.out HWS.out] at hRR
        subst hRR
        clear he hs
        go_wp2_with fail
        go_ret2
        exact ⟨rfl, HEND.out _ (Fr.refl _ _)⟩
end Go.Proofs.YtokeciekncincabGreat
namespace Go.Proofs.YtokeciekncincabGreat
open Go Go.RowKit Go.Maps

set_option maxRecDepth 100000 in
theorem rless_any (a b : Spot) (w : World) : Calls Tryz.prog 26 #[spV a, spV b] w fun e w' => e = .returned (.bool (lessS a b)) ∧ Fr w w' Nil := by
  obtain ⟨a1, a2, a3⟩ := a
  obtain ⟨b1, b2, b3⟩ := b
  obtain ⟨w0, hw0⟩ : ∃ w0, (w.alloc (.cells #[.int .i64 a1, .bool a2, .int .i64 a3] 30)).alloc (.cells #[.int .i64 b1, .bool b2, .int .i64 b3] 30) = w0 := ⟨_, rfl⟩
  have hf0 : Fr w w0 Nil := by rw [← hw0]; exact ((Fr.refl w Nil).alloc _).alloc _
  have hb0 : Bk w0 w.heap.size 30 [.int .i64 a1, .bool a2, .int .i64 a3] := by rw [← hw0]; exact (Bk.new w _ _).alloc _
  have hb1 : Bk w0 (w.heap.size + 1) 30 [.int .i64 b1, .bool b2, .int .i64 b3] := by
    rw [← hw0]
    have h1 := Bk.new (w.alloc (.cells #[.int .i64 a1, .bool a2, .int .i64 a3] 30)) 30 #[.int .i64 b1, .bool b2, .int .i64 b3]
    rw [World.size_alloc] at h1
    exact h1
  have p0 := hb0.cell 0
  have p1 := hb0.cell 1
  have p2 := hb0.cell 2
  have q0 := hb1.cell 0
  have q1 := hb1.cell 1
  have q2 := hb1.cell 2
  obtain ⟨R, hR⟩ : ∃ R, lessS (a1, a2, a3) (b1, b2, b3) = R := ⟨_, rfl⟩
  rw [hR]
  have HR := Lib.hid hR
  have HF := Lib.hid hf0
  clear hf0 hb0 hb1 hR
  unfold lessS at HR
  dsimp only at HR
  have hn1 : (a1 != b1) = !(a1 == b1) := rfl
  have hn2 : (a2 != b2) = !(a2 == b2) := rfl
  go_enter Tryz.func26, Tryz.ntmps26
  by_cases h1 : a1 = b1
  · subst h1
    have hh : (a1 == a1) = true := beq_self_eq_true a1
    rw [hh] at hn1
    clear hn2
    have hr := HR.out
    rw [if_neg (by simp)] at hr
    cases a2 <;> cases b2 <;> (
      first | rw [if_neg (by decide)] at hr | rw [if_pos (by decide)] at hr
      subst hr
      clear HR
      go_wp2_with fail
      go_ret
      exact ⟨rfl, by first | exact HF.out | (rw [hw0]; exact HF.out)⟩)
  · have hh : (a1 == b1) = false := by rw [beq_eq_false_iff_ne]; exact h1
    rw [hh] at hn1
    have hr := HR.out
    rw [if_pos h1] at hr
    subst hr
    clear HR
    go_wp2_with fail
    go_ret
    exact ⟨rfl, by first | exact HF.out | (rw [hw0]; exact HF.out)⟩
/-- A sorted row, cut where the spot belongs. -/
theorem add_at {A B : List Spot} {s : Spot} (h : SortedS (A ++ B)) (hB : ∀ b ∈ B, lessS s b = true) (hA : ∀ a ∈ A.getLast?, lessS s a = false ∧ a ≠ s) : addL (A ++ B) s = A ++ s :: B := by
  refine sortedS_ext (addL_sorted h s) ?_ fun x => ?_
  · unfold SortedS at h ⊢
    rw [List.pairwise_append] at h ⊢
    have hlt : ∀ a ∈ A, lessS a s = true := fun a ha => by
      have hne : A ≠ [] := List.ne_nil_of_mem ha
      obtain ⟨l, hl⟩ : ∃ l, A.getLast? = some l := ⟨A.getLast hne, List.getLast?_eq_some_getLast hne⟩
      obtain ⟨h1, h2⟩ := hA l hl
      have h3 : lessS l s = true := lessS_total (fun e => h2 e.symm) h1
      obtain ⟨A', rfl⟩ : ∃ A', A = A' ++ [l] := by
        rw [List.getLast?_eq_some_iff] at hl
        exact hl
      rcases List.mem_append.1 ha with ha | ha
      · have h4 := (List.pairwise_append.1 h.1).2.2 a ha l (List.mem_singleton.2 rfl)
        exact lessS_trans h4 h3
      · rw [List.mem_singleton] at ha; subst ha; exact h3
    refine ⟨h.1, List.pairwise_cons.2 ⟨hB, h.2.1⟩, fun a ha x hx => ?_⟩
    rcases List.mem_cons.1 hx with rfl | hx
    · exact hlt a ha
    · exact h.2.2 a ha x hx
  · rw [addL_mem]
    simp only [List.mem_append, List.mem_cons]
    constructor
    · rintro ((h | h) | h)
      · exact .inl h
      · exact .inr (.inr h)
      · exact .inr (.inl h)
    · rintro (h | h | h)
      · exact .inl (.inl h)
      · exact .inr h
      · exact .inl (.inr h)
theorem add_in {l : List Spot} {s : Spot} (h : SortedS l) (hs : s ∈ l) : addL l s = l := by
  refine sortedS_ext (addL_sorted h s) h fun x => ?_
  rw [addL_mem]
  exact ⟨fun h => h.elim id fun e => e ▸ hs, .inl⟩
end Go.Proofs.YtokeciekncincabGreat
