/-
  The law LockKnown: the chapter's example and what bounds ask.
  No condition.
-/
import Derived.Test.YtokeciekncincabGreatPkK2
import Derived.Test.YtokeciekncincabGreatPkK3
import Derived.Test.YtokeciekncincabGreatPkK4
import Derived.Test.YtokeciekncincabGreatPkK5
import Derived.Test.YtokeciekncincabGreatPkC36
import Derived.Deep.CutBlock
namespace Go.Proofs.YtokeciekncincabGreat
open Go Go.RowKit Go.Maps

set_option maxRecDepth 100000 in
set_option maxHeartbeats 32000000 in
theorem lknown_any (w0 : World) : Calls Tryz.prog 4 #[] w0 fun e w' => e = .returned (.bool true) ∧ Fr w0 w' Nil := by
  have HFw0 : Hid (Fr w0 w0 Nil) := Fr.refl w0 Nil
  go_enter Tryz.func4, Tryz.ntmps4
  go_wp2_with fail
  refine (row_any 1 w0).mono ?_
  rintro e w1 ⟨rfl, hfw1⟩
  have HFw1 := Lib.hid (HFw0.out.trans0 hfw1)
  clear hfw1
  go_wp2_with fail
  refine (nil_ask 1 (0, true, 1) 3 w1).mono ?_
  rintro e w2 ⟨rfl, hfw2⟩
  have HFw2 := Lib.hid (HFw1.out.trans0 hfw2)
  clear hfw2
  go_wp2_with fail
  refine (row_any 1 w2).mono ?_
  rintro e w3 ⟨rfl, hfw3⟩
  have HFw3 := Lib.hid (HFw2.out.trans0 hfw3)
  clear hfw3
  go_wp2_with fail
  refine (nil_free 1 (0, true, 1) w3).mono ?_
  rintro e w4 ⟨rfl, hfw4⟩
  have HFw4 := Lib.hid (HFw3.out.trans0 hfw4)
  clear hfw4
  go_wp2_with fail
  refine (nil_cancel 1 w4).mono ?_
  rintro e w5 ⟨rfl, hfw5⟩
  have HFw5 := Lib.hid (HFw4.out.trans0 hfw5)
  clear hfw5
  go_wp2_with fail
  refine (nil_waits 1 w5).mono ?_
  rintro e w6 ⟨rfl, hfw6⟩
  obtain ⟨w7, hw7⟩ : ∃ z, w6.alloc (.cells #[.int .i64 0, .bool false, .int .i64 0] 30) = z := ⟨_, rfl⟩
  have HFw7 : Hid (Fr w0 w7 Nil) := HFw5.out.trans0 (by rw [← hw7]; exact hfw6.alloc _)
  have HH := Lib.hid hw7
  clear hfw6 hw7
  go_wp2_with fail
  try rw [HH.out]
  clear HH
  refine (nil_leave 1 w7).mono ?_
  rintro e w8 ⟨rfl, hfw8⟩
  have HFw8 := Lib.hid (HFw7.out.trans0 hfw8)
  clear hfw8
  go_wp2_with fail
  refine (row_any 1 w8).mono ?_
  rintro e w9 ⟨rfl, hfw9⟩
  have HFw9 := Lib.hid (HFw8.out.trans0 hfw9)
  clear hfw9
  go_wp2_with fail
  refine (nil_held 1 (0, true, 1) w9).mono ?_
  rintro e w10 ⟨rfl, hfw10⟩
  have HFw10 := Lib.hid (HFw9.out.trans0 hfw10)
  clear hfw10
  go_wp2_with fail
  refine (row_any 1 w10).mono ?_
  rintro e w11 ⟨rfl, hfw11⟩
  have HFw11 := Lib.hid (HFw10.out.trans0 hfw11)
  clear hfw11
  go_wp2_with fail
  refine (nil_holders (0, true, 1) w11).mono ?_
  rintro e w12 ⟨rfl, hfw12⟩
  have HFw12 := Lib.hid (HFw11.out.trans0 hfw12)
  clear hfw12
  go_wp2_with fail
  refine (row_any 1 w12).mono ?_
  rintro e w13 ⟨rfl, hfw13⟩
  have HFw13 := Lib.hid (HFw12.out.trans0 hfw13)
  clear hfw13
  go_wp2_with fail
  refine (nil_queue (0, true, 1) w13).mono ?_
  rintro e w14 ⟨rfl, hfw14⟩
  have HFw14 := Lib.hid (HFw13.out.trans0 hfw14)
  clear hfw14
  go_wp2_with fail
  refine (nil_spots 1 w14).mono ?_
  rintro e w15 ⟨rfl, hfw15⟩
  have HFw15 := Lib.hid (HFw14.out.trans0 hfw15)
  clear hfw15
  go_wp2_with fail
  refine (nil_used  w15).mono ?_
  rintro e w16 ⟨rfl, hfw16⟩
  have HFw16 := Lib.hid (HFw15.out.trans0 hfw16)
  clear hfw16
  go_wp2_with fail
  refine (nil_for 1 w16).mono ?_
  rintro e w17 ⟨rfl, hfw17⟩
  have HFw17 := Lib.hid (HFw16.out.trans0 hfw17)
  clear hfw17
  go_wp2_with fail
  obtain ⟨w18, hw18⟩ : ∃ z, w17.alloc (.cells #[.int .i64 0, .bool false, .int .i64 0] 30) = z := ⟨_, rfl⟩
  have hb : Bk w18 w17.heap.size 30 [.int .i64 0, .bool false, .int .i64 0] := by rw [← hw18]; exact Bk.new w17 _ _
  have HFw18 : Hid (Fr w0 w18 Nil) := HFw17.out.trans0 (by rw [← hw18]; exact (Fr.refl w17 Nil).alloc _)
  obtain ⟨bx, hbx⟩ : ∃ x, w17.heap.size = x := ⟨_, rfl⟩
  rw [hbx] at hb
  have HBX := Lib.hid hb
  try rw [hw18]
  try rw [hbx]
  clear hb hbx hw18
  refine (row_any 1 w18).mono ?_
  rintro e w19 ⟨rfl, hfw19⟩
  have HFw19 := Lib.hid (HFw18.out.trans0 hfw19)
  have HBXw19 := Lib.hid (HBX.out.fr hfw19 fun h => h)
  clear HBX
  have HBX := HBXw19
  clear HBXw19 hfw19
  go_wp2_with fail
  refine (row_any 1 w19).mono ?_
  rintro e w20 ⟨rfl, hfw20⟩
  have HFw20 := Lib.hid (HFw19.out.trans0 hfw20)
  have HBXw20 := Lib.hid (HBX.out.fr hfw20 fun h => h)
  clear HBX
  have HBX := HBXw20
  clear HBXw20 hfw20
  go_wp2_with fail
  refine (row_any 1 w20).mono ?_
  rintro e w21 ⟨rfl, hfw21⟩
  have HFw21 := Lib.hid (HFw20.out.trans0 hfw21)
  have HBXw21 := Lib.hid (HBX.out.fr hfw21 fun h => h)
  clear HBX
  have HBX := HBXw21
  clear HBXw21 hfw21
  obtain ⟨w22, hw22⟩ : ∃ z, w21.alloc (.cells #[.int .u8 0, .int .i64 0, .int .i64 0, .bool true, .int .i64 1, .int .u8 0, .int .u8 0, .int .i64 0, .int .i64 0, .bool true, .int .i64 1, .int .u8 6, .int .u8 0, .int .i64 0, .int .i64 0, .bool false, .int .i64 1, .int .u8 3, .int .u8 0, .int .i64 0, .int .i64 (-1), .bool false, .int .i64 0, .int .u8 3, .int .u8 6, .int .i64 0, .int .i64 0, .bool true, .int .i64 1, .int .u8 0, .int .u8 7, .int .i64 0, .int .i64 0, .bool false, .int .i64 0, .int .u8 0, .int .u8 8, .int .i64 0, .int .i64 0, .bool false, .int .i64 0, .int .u8 0] 33) = z := ⟨_, rfl⟩
  have hb : Bk w22 w21.heap.size 33 (badK.flatMap CallK.vals) := by rw [← hw22, badK_cells]; exact Bk.new w21 _ _
  have hff : Fr w21 w22 Nil := by rw [← hw22]; exact (Fr.refl w21 Nil).alloc _
  have HFw22 : Hid (Fr w0 w22 Nil) := HFw21.out.trans0 hff
  have HBX2 := Lib.hid (HBX.out.fr hff fun h => h)
  have HBB := Lib.hid hb
  have HH := Lib.hid hw22
  clear hb hff hw22 HBX
  have HBX := HBX2
  clear HBX2
  go_wp2_with fail
  try rw [HH.out]
  clear HH
  obtain ⟨bb, hbb⟩ : ∃ x, w21.heap.size = x := ⟨_, rfl⟩
  rw [hbb] at HBB
  try rw [hbb]
  clear hbb
  have k1 : ∀ w', KeptN w22 w' → w'.cell? ⟨bx, 0, none⟩ = some (.int .i64 0) := KeptN.cell (HBX.out.cell 0)
  have k2 : ∀ w', KeptN w22 w' → w'.cell? ⟨bx, 1, none⟩ = some (.bool false) := KeptN.cell (HBX.out.cell 1)
  have k3 : ∀ w', KeptN w22 w' → w'.cell? ⟨bx, 2, none⟩ = some (.int .i64 0) := KeptN.cell (HBX.out.cell 2)
  refine wp_region_sink 37 (KeptN w22) (by kernel_rfl) ?_
  have hSa : KeptN w22 w22.drew := KeptN.start w22
  refine tk 0 hSa ?_ (hy := by intro _ w; have ck1 := k1 _ w; have ck2 := k2 _ w; have ck3 := k3 _ w; go_simp <;> with_reducible rfl)
  try simp only [Act.put, sA, sB, sC]
  refine tk 1 hSa ?_
  try simp only [Act.put, sA, sB, sC]
  refine tk 2 hSa ?_ (hy := by intro _ w; have ck1 := k1 _ w; have ck2 := k2 _ w; have ck3 := k3 _ w; go_simp <;> with_reducible rfl)
  try simp only [Act.put, sA, sB, sC]
  refine tk 3 hSa ?_
  try simp only [Act.put, sA, sB, sC]
  refine tk 4 hSa ?_ (hy := by intro _ w; have ck1 := k1 _ w; have ck2 := k2 _ w; have ck3 := k3 _ w; go_simp <;> with_reducible rfl)
  try simp only [Act.put, sA, sB, sC]
  refine tk 5 hSa ?_
  try simp only [Act.put, sA, sB, sC]
  refine tk 6 hSa ?_ (hy := by intro _ w; have ck1 := k1 _ w; have ck2 := k2 _ w; have ck3 := k3 _ w; go_simp <;> with_reducible rfl)
  try simp only [Act.put, sA, sB, sC]
  refine tk 7 hSa ?_
  try simp only [Act.put, sA, sB, sC]
  refine tk 8 hSa ?_ (hy := by intro _ w; have ck1 := k1 _ w; have ck2 := k2 _ w; have ck3 := k3 _ w; go_simp <;> with_reducible rfl)
  try simp only [Act.put, sA, sB, sC]
  refine tk 9 hSa ?_
  try simp only [Act.put, sA, sB, sC]
  refine tk 10 hSa ?_ (hy := by intro _ w; have ck1 := k1 _ w; have ck2 := k2 _ w; have ck3 := k3 _ w; go_simp <;> with_reducible rfl)
  try simp only [Act.put, sA, sB, sC]
  refine tk 11 hSa ?_
  try simp only [Act.put, sA, sB, sC]
  refine tk 12 hSa ?_ (hy := by intro _ w; have ck1 := k1 _ w; have ck2 := k2 _ w; have ck3 := k3 _ w; go_simp <;> with_reducible rfl)
  try simp only [Act.put, sA, sB, sC]
  refine tk 13 hSa ?_
  try simp only [Act.put, sA, sB, sC]
  refine tk 14 hSa ?_ (hy := by intro _ w; have ck1 := k1 _ w; have ck2 := k2 _ w; have ck3 := k3 _ w; go_simp <;> with_reducible rfl)
  try simp only [Act.put, sA, sB, sC]
  refine tk 15 hSa ?_
  try simp only [Act.put, sA, sB, sC]
  refine tk 16 hSa ?_ (hy := by intro _ w; have ck1 := k1 _ w; have ck2 := k2 _ w; have ck3 := k3 _ w; go_simp <;> with_reducible rfl)
  try simp only [Act.put, sA, sB, sC]
  refine tk 17 hSa ?_
  try simp only [Act.put, sA, sB, sC]
  refine tk 18 hSa ?_ (hy := by intro _ w; have ck1 := k1 _ w; have ck2 := k2 _ w; have ck3 := k3 _ w; go_simp <;> with_reducible rfl)
  try simp only [Act.put, sA, sB, sC]
  refine tk 19 hSa ?_
  try simp only [Act.put, sA, sB, sC]
  refine tk 20 hSa ?_ (hy := by intro _ w; have ck1 := k1 _ w; have ck2 := k2 _ w; have ck3 := k3 _ w; go_simp <;> with_reducible rfl)
  try simp only [Act.put, sA, sB, sC]
  refine tk 21 hSa ?_
  try simp only [Act.put, sA, sB, sC]
  refine tk 22 hSa ?_ (hy := by intro _ w; have ck1 := k1 _ w; have ck2 := k2 _ w; have ck3 := k3 _ w; go_simp <;> with_reducible rfl)
  try simp only [Act.put, sA, sB, sC]
  refine tk 23 hSa ?_
  try simp only [Act.put, sA, sB, sC]
  refine tk 24 hSa ?_ (hy := by intro _ w; have ck1 := k1 _ w; have ck2 := k2 _ w; have ck3 := k3 _ w; go_simp <;> with_reducible rfl)
  try simp only [Act.put, sA, sB, sC]
  refine tk 25 hSa ?_
  try simp only [Act.put, sA, sB, sC]
  refine tk 30 hSa ?_ (hy := by intro _ w; have ck1 := k1 _ w; have ck2 := k2 _ w; have ck3 := k3 _ w; go_simp <;> with_reducible rfl)
  try simp only [Act.put, sA, sB, sC]
  refine tk 31 hSa ?_
  try simp only [Act.put, sA, sB, sC]
  refine tk 32 hSa ?_ (hy := by intro _ w; have ck1 := k1 _ w; have ck2 := k2 _ w; have ck3 := k3 _ w; go_simp <;> with_reducible rfl)
  try simp only [Act.put, sA, sB, sC]
  refine tk 33 hSa ?_
  try simp only [Act.put, sA, sB, sC]
  refine tk 34 hSa ?_ (hy := by intro _ w; have ck1 := k1 _ w; have ck2 := k2 _ w; have ck3 := k3 _ w; go_simp <;> with_reducible rfl)
  try simp only [Act.put, sA, sB, sC]
  refine tk 35 hSa ?_
  try simp only [Act.put, sA, sB, sC]
  refine on1 26 fun K hK => ?_
  go_simp
  refine (row_any 7 _).mono ?_
  rintro e w23 ⟨rfl, hf1⟩
  have hSb : KeptN w22 w23 := KeptN.next hSa hf1
  refine hK.out _ _ hSb ?_
  clear hK K
  try simp only [Act.put, sA, sB, sC]
  refine tk 27 hSb ?_
  try simp only [Act.put, sA, sB, sC]
  refine on1 28 fun K hK => ?_
  go_simp
  refine (row_any 7 _).mono ?_
  rintro e w24 ⟨rfl, hf2⟩
  have hSc : KeptN w22 w24 := KeptN.next hSb hf2
  refine hK.out _ _ hSc ?_
  clear hK K
  try simp only [Act.put, sA, sB, sC]
  refine tk 29 hSc ?_
  try simp only [Act.put, sA, sB, sC]
  refine on1 36 fun K hK => ?_
  go_simp
  obtain ⟨w25, hw25⟩ : ∃ z, w24.alloc (.cells #[.int .u8 0, .int .i64 1, .int .i64 0, .bool false, .int .i64 0, .int .u8 1, .int .u8 0, .int .i64 2, .int .i64 0, .bool false, .int .i64 0, .int .u8 2, .int .u8 0, .int .i64 3, .int .i64 0, .bool false, .int .i64 0, .int .u8 3, .int .u8 0, .int .i64 1, .int .i64 0, .bool false, .int .i64 0, .int .u8 4, .int .u8 0, .int .i64 4, .int .i64 0, .bool false, .int .i64 0, .int .u8 1, .int .u8 0, .int .i64 2, .int .i64 0, .bool false, .int .i64 0, .int .u8 5, .int .u8 6, .int .i64 2, .int .i64 0, .bool false, .int .i64 0, .int .u8 0, .int .u8 7, .int .i64 2, .int .i64 0, .bool false, .int .i64 0, .int .u8 0, .int .u8 0, .int .i64 5, .int .i64 0, .bool false, .int .i64 0, .int .u8 5, .int .u8 0, .int .i64 5, .int .i64 0, .bool false, .int .i64 0, .int .u8 1, .int .u8 8, .int .i64 2, .int .i64 0, .bool false, .int .i64 0, .int .u8 0, .int .u8 7, .int .i64 5, .int .i64 0, .bool false, .int .i64 0, .int .u8 0, .int .u8 9, .int .i64 1, .int .i64 0, .bool false, .int .i64 0, .int .u8 0, .int .u8 0, .int .i64 3, .int .i64 0, .bool true, .int .i64 7, .int .u8 5, .int .u8 0, .int .i64 1, .int .i64 0, .bool true, .int .i64 7, .int .u8 3, .int .u8 8, .int .i64 3, .int .i64 0, .bool false, .int .i64 0, .int .u8 0, .int .u8 8, .int .i64 1, .int .i64 0, .bool false, .int .i64 0, .int .u8 0, .int .u8 8, .int .i64 4, .int .i64 0, .bool false, .int .i64 0, .int .u8 0] 33) = z := ⟨_, rfl⟩
  have hb : Bk w25 w24.heap.size 33 (allK.flatMap CallK.vals) := by rw [← hw25, allK_cells]; exact Bk.new w24 _ _
  have hff : Fr w24 w25 Nil := by rw [← hw25]; exact (Fr.refl w24 Nil).alloc _
  try rw [hw25]
  have hSd : KeptN w22 w25 := KeptN.next hSc hff
  refine hK.out _ _ hSd ?_
  clear hK K
  try simp only [Act.put, sA, sB, sC]
  refine wpAnyS_last (i := 37) rfl (by kernel_rfl) (by decide) (by kernel_rfl) (by rfl) fun K hK => ?_
  go_simp
  refine hK.out _ _ ?_
  clear hK K
  obtain ⟨bl, hbl⟩ : ∃ x, w24.heap.size = x := ⟨_, rfl⟩
  rw [hbl] at hb
  try rw [hbl]
  have HBL := Lib.hid hb
  have HFL : Hid (Fr w0 w25 Nil) := HFw22.out.trans0 hSd
  have HBX2 : Hid (Bk w25 bx 30 [.int .i64 0, .bool false, .int .i64 0]) := HBX.out.fr hSd fun h => h
  have HBB2 : Hid (Bk w25 bb 33 (badK.flatMap CallK.vals)) := HBB.out.fr hSd fun h => h
  clear HBX HBB hb hff hbl hw25 hSa hSb hSc hSd hf1 hf2 k1 k2 k3
  have HBX := HBX2
  have HBB := HBB2
  clear HBX2 HBB2
  go_wp2_with fail
  go_loopw [15] (fun vm wr => ∃ m : Int, vm = .int .i64 m ∧ -1 ≤ m ∧ m ≤ 9 ∧ Hid (Fr w25 wr Nil)) (fun vm _ => (9 - intOf vm).toNat)
  case atStart => exact ⟨-1, rfl, by omega, by omega, Fr.refl _ _⟩
  case round =>
    obtain ⟨m, rfl, hm1, hm2, HF⟩ := hrel
    obtain ⟨wm, rfl⟩ : ∃ wo : World, wo = wr := ⟨_, rfl⟩
    by_cases hm : m < 9
    · have cKB : ∀ w', Fr w25 w' Nil → KCallsAt w' (.slice (some ⟨bb, 0, none⟩) 7 7) badK := fun w' hf => kcalls_all (HBB.out.fr hf fun h => h) (by decide)
      have cKL : ∀ w', Fr w25 w' Nil → KCallsAt w' (.slice (some ⟨bl, 0, none⟩) 18 18) allK := fun w' hf => kcalls_all (HBL.out.fr hf fun h => h) (by decide)
      have CKB := Lib.hid cKB
      have CKL := Lib.hid cKL
      clear cKB cKL
      go_wp2_with fail
      refine (lplays_any m _ badK _ (CKB.out _ HF.out)).mono ?_
      rintro e wm1 ⟨rfl, hf⟩
      have HF1 := Lib.hid (HF.out.trans0 hf)
      clear hf
      go_wp2_with fail
      refine (lplays_any m _ allK _ (CKL.out _ HF1.out)).mono ?_
      rintro e wm2 ⟨rfl, hf⟩
      have HF2 := Lib.hid (HF1.out.trans0 hf)
      clear hf
      go_wp2_with fail
      refine (lbeside_any m _ allK _ (CKL.out _ HF2.out)).mono ?_
      rintro e wm3 ⟨rfl, hf⟩
      have HF3 := Lib.hid (HF2.out.trans0 hf)
      clear hf
      go_wp2_with fail
      refine (lfinds_any m _ allK _ (CKL.out _ HF3.out)).mono ?_
      rintro e wm4 ⟨rfl, hf⟩
      have HF4 := Lib.hid (HF3.out.trans0 hf)
      clear hf
      go_wp2_with fail
      go_roundw
      case rel => exact ⟨m + 1, by go_num, by omega, by omega, HF4⟩
      case measure => simp [intOf]; omega
    · have HFM := Lib.hid (HFL.out.trans0 HF.out)
      have HBX2 := Lib.hid (HBX.out.fr HF.out fun h => h)
      have HBL2 := Lib.hid (HBL.out.fr HF.out fun h => h)
      clear HBX HBL HBB HF HFL
      have HBX := HBX2
      have HBL := HBL2
      clear HBX2 HBL2
      go_wp2_with fail
      go_loopw [16] (fun vi wr => ∃ i : Nat, vi = .int .i64 (i : Int) ∧ i ≤ 18 ∧ Hid (Fr wm wr Nil)) (fun vi _ => 18 - (intOf vi).toNat)
      case atStart => exact ⟨0, by go_num, by omega, Fr.refl _ _⟩
      case round =>
        obtain ⟨i, rfl, hi, HF⟩ := hrel
        obtain ⟨wi, rfl⟩ : ∃ wo : World, wo = wr := ⟨_, rfl⟩
        by_cases hlt : i < 18
        · have hil : (i : Int) < 18 := by omega
          have hi0 : (0 : Int) ≤ (i : Int) := by omega
          have hi18 : (i : Int) ≤ 18 := by omega
          have hne : ¬ (18 = i) := by omega
          have hne2 : ¬ (18 - i = 0) := by omega
          obtain ⟨t, ht⟩ : ∃ t, allK[i]? = some t := ⟨_, List.getElem?_eq_getElem (by rw [allK_len]; exact hlt)⟩
          have hbl := HBL.out.fr HF.out fun h => h
          have hcl := call_cells hbl ht
          have hbx := HBX.out.fr HF.out fun h => h
          have k1 : ∀ w', KeptN wi w' → w'.cell? ⟨bx, 0, none⟩ = some (.int .i64 0) := KeptN.cell (hbx.cell 0)
          have k2 : ∀ w', KeptN wi w' → w'.cell? ⟨bx, 1, none⟩ = some (.bool false) := KeptN.cell (hbx.cell 1)
          have k3 : ∀ w', KeptN wi w' → w'.cell? ⟨bx, 2, none⟩ = some (.int .i64 0) := KeptN.cell (hbx.cell 2)
          have k4 : ∀ w', KeptN wi w' → w'.cell? ⟨bl, i * 6 + 2, none⟩ = some (.int .i64 t.s.1) := KeptN.cell (hcl 2 _ rfl)
          have k5 : ∀ w', KeptN wi w' → w'.cell? ⟨bl, i * 6 + 2 + 1, none⟩ = some (.bool t.s.2.1) := KeptN.cell (hcl 3 _ rfl)
          have k6 : ∀ w', KeptN wi w' → w'.cell? ⟨bl, i * 6 + 2 + 2, none⟩ = some (.int .i64 t.s.2.2) := KeptN.cell (hcl 4 _ rfl)
          have CKL : Hid (∀ w', Fr wm w' Nil → KCallsAt w' (.slice (some ⟨bl, 0, none⟩) 18 18) allK) := fun w' hf => kcalls_all (HBL.out.fr hf fun h => h) (by decide)
          have CKD : Hid (∀ w', Fr wm w' Nil → KCallsAt w' (.slice (some ⟨bl, i * 6, none⟩) (18 - i) (18 - i)) (allK.drop i)) := fun w' hf => kcalls_drop (HBL.out.fr hf fun h => h) (by decide) i (by rw [allK_len]; omega)
          have OKS := Lib.hid t.oks
          have HZW : Hid (SWf ((0, false, 0) : Spot)) := by have h9 : SWf ((0, false, 0) : Spot) := (by decide); exact h9
          clear ht hbl hcl hbx
          obtain ⟨_, _, s, _, _, _, _, _⟩ := t
          dsimp only at k4 k5 k6
          dsimp only at OKS
          obtain ⟨s1, s2, s3⟩ := s
          dsimp only at k4 k5 k6
          go_wp2_with fail
          refine wp_region_sink 16 (KeptN wi) (by kernel_rfl) ?_
          have hSa : KeptN wi wi.drew := KeptN.start wi
          refine tkA 0 hSa ?_
          try simp only [Act.put, sA, sB, sC]
          refine tkA 1 hSa ?_
          try simp only [Act.put, sA, sB, sC]
          refine tkA 2 hSa ?_
          try simp only [Act.put, sA, sB, sC]
          refine tkA 3 hSa ?_ (hy := by intro _ w; have ck1 := k1 _ w; have ck2 := k2 _ w; have ck3 := k3 _ w; go_simp <;> with_reducible rfl)
          try simp only [Act.put, sA, sB, sC]
          refine on1 4 fun K hK => ?_
          go_simp
          refine (lorder_any _ (allK.drop i) (0, false, 0) _ (CKD.out _ (HF.out.trans0 hSa)) HZW.out).mono ?_
          rintro e wi1 ⟨rfl, hf1⟩
          have hSb : KeptN wi wi1 := KeptN.next hSa hf1
          refine hK.out _ _ hSb ?_
          clear hK K
          try simp only [Act.put, sA, sB, sC]
          refine tkA 5 hSb ?_
          try simp only [Act.put, sA, sB, sC]
          refine tkA 6 hSb ?_
          try simp only [Act.put, sA, sB, sC]
          refine tkA 7 hSb ?_
          try simp only [Act.put, sA, sB, sC]
          refine tkA 8 hSb ?_
          try simp only [Act.put, sA, sB, sC]
          refine tkA 9 hSb ?_
          try simp only [Act.put, sA, sB, sC]
          refine tkA 10 hSb ?_
          try simp only [Act.put, sA, sB, sC]
          refine tkA 11 hSb ?_
          try simp only [Act.put, sA, sB, sC]
          refine tkA 12 hSb ?_ (hy := by intro _ w; have ck4 := k4 _ w; have ck5 := k5 _ w; have ck6 := k6 _ w; go_simp <;> with_reducible rfl)
          try simp only [Act.put, sA, sB, sC]
          refine on1 13 fun K hK => ?_
          go_simp
          refine (lorder_any _ allK (s1, s2, s3) _ (CKL.out _ (HF.out.trans0 hSb)) OKS.out).mono ?_
          rintro e wi2 ⟨rfl, hf2⟩
          have hSc : KeptN wi wi2 := KeptN.next hSb hf2
          refine hK.out _ _ hSc ?_
          clear hK K
          try simp only [Act.put, sA, sB, sC]
          refine tkA 14 hSc ?_
          try simp only [Act.put, sA, sB, sC]
          refine tkA 15 hSc ?_
          try simp only [Act.put, sA, sB, sC]
          refine wpAnyS_done (by kernel_rfl) ?_
          have HF2 := Lib.hid (HF.out.trans0 hSc)
          clear hSa hSb hSc hf1 hf2 k1 k2 k3 k4 k5 k6
          go_wp2_with fail
          go_roundw
          case rel => exact ⟨i + 1, by go_num, by omega, HF2⟩
          case measure => simp [intOf]; omega
        · have hnl : ¬ (i : Int) < 18 := by omega
          have HFI := Lib.hid (HFM.out.trans0 HF.out)
          clear HFM HF HBX HBL hlt
          obtain ⟨ws, hws⟩ : ∃ z, wi.alloc (.cells #[.int .i64 0, .bool false, .int .i64 0, .int .i64 0, .bool true, .int .i64 (-5), .int .i64 0, .bool true, .int .i64 0, .int .i64 0, .bool true, .int .i64 5, .int .i64 1, .bool false, .int .i64 0, .int .i64 1, .bool true, .int .i64 0] 30) = z := ⟨_, rfl⟩
          have hb : Bk ws wi.heap.size 30 (spK.flatMap sp3) := by rw [← hws, spK_cells]; exact Bk.new wi _ _
          have HFS : Hid (Fr w0 ws Nil) := HFI.out.trans0 (by rw [← hws]; exact (Fr.refl wi Nil).alloc _)
          have HBS := Lib.hid hb
          have HH := Lib.hid hws
          clear hb hws
          go_wp2_with fail
          try rw [HH.out]
          clear HH
          obtain ⟨bs, hbs⟩ : ∃ x, wi.heap.size = x := ⟨_, rfl⟩
          rw [hbs] at HBS
          try rw [hbs]
          clear hbs
          go_loopw [18] (fun vi wr => ∃ i : Nat, vi = .int .i64 (i : Int) ∧ i ≤ 6 ∧ Hid (Fr ws wr Nil)) (fun vi _ => 6 - (intOf vi).toNat)
          case atStart => exact ⟨0, by go_num, by omega, Fr.refl _ _⟩
          case round =>
            obtain ⟨i, rfl, hi, HF⟩ := hrel
            obtain ⟨wi, rfl⟩ : ∃ wo : World, wo = wr := ⟨_, rfl⟩
            by_cases hlt : i < 6
            · have hil : (i : Int) < 6 := by omega
              go_wp2_with fail
              go_loopw [19] (fun vk wr => ∃ k : Nat, vk = .int .i64 (k : Int) ∧ k ≤ 6 ∧ Hid (Fr ws wr Nil)) (fun vk _ => 6 - (intOf vk).toNat)
              case atStart => exact ⟨0, by go_num, by omega, HF.out⟩
              case round =>
                obtain ⟨k, rfl, hk, HFK⟩ := hrel
                obtain ⟨wk, rfl⟩ : ∃ wo : World, wo = wr := ⟨_, rfl⟩
                by_cases hlk : k < 6
                · have hkl : (k : Int) < 6 := by omega
                  obtain ⟨a, ha⟩ : ∃ t, spK[i]? = some t := ⟨_, List.getElem?_eq_getElem (by rw [spK_len]; exact hlt)⟩
                  obtain ⟨c, hc⟩ : ∃ t, spK[k]? = some t := ⟨_, List.getElem?_eq_getElem (by rw [spK_len]; exact hlk)⟩
                  have hls := spK_less i hlt k hlk a c ha hc
                  have hbk := HBS.out.fr HFK.out fun h => h
                  have hca := spot_cells hbk ha
                  have hcc := spot_cells hbk hc
                  have k1 : ∀ w', KeptN wk w' → w'.cell? ⟨bs, i * 3, none⟩ = some (.int .i64 a.1) := KeptN.cell (hca 0 _ rfl)
                  have k2 : ∀ w', KeptN wk w' → w'.cell? ⟨bs, i * 3 + 1, none⟩ = some (.bool a.2.1) := KeptN.cell (hca 1 _ rfl)
                  have k3 : ∀ w', KeptN wk w' → w'.cell? ⟨bs, i * 3 + 2, none⟩ = some (.int .i64 a.2.2) := KeptN.cell (hca 2 _ rfl)
                  have k4 : ∀ w', KeptN wk w' → w'.cell? ⟨bs, k * 3, none⟩ = some (.int .i64 c.1) := KeptN.cell (hcc 0 _ rfl)
                  have k5 : ∀ w', KeptN wk w' → w'.cell? ⟨bs, k * 3 + 1, none⟩ = some (.bool c.2.1) := KeptN.cell (hcc 1 _ rfl)
                  have k6 : ∀ w', KeptN wk w' → w'.cell? ⟨bs, k * 3 + 2, none⟩ = some (.int .i64 c.2.2) := KeptN.cell (hcc 2 _ rfl)
                  obtain ⟨bb, hbb⟩ : ∃ b, decide ((i : Int) < (k : Int)) = b := ⟨_, rfl⟩
                  have hls2 : lessS a c = bb := by rw [hls, ← hbb]; exact decide_eq_decide.2 (by omega)
                  have hbn : decide (i < k) = bb := by rw [← hbb]; exact decide_eq_decide.2 (by omega)
                  have cL := lkless_any a c
                  have cR := rless_any a c
                  rw [hls2] at cL cR
                  clear ha hc hls hls2 hbk hca hcc
                  obtain ⟨a1, a2, a3⟩ := a
                  obtain ⟨c1, c2, c3⟩ := c
                  dsimp only at k1 k2 k3 k4 k5 k6 cL cR
                  cases bb with
                  | true =>
                    go_wp2_with fail
                    refine wp_region_sink 28 (KeptN wk) (by kernel_rfl) ?_
                    have hSa : KeptN wk wk.drew := KeptN.start wk
                    refine tkA 0 hSa ?_
                    try simp only [Act.put, sA, sB, sC]
                    refine tkA 1 hSa ?_
                    try simp only [Act.put, sA, sB, sC]
                    refine tkA 2 hSa ?_
                    try simp only [Act.put, sA, sB, sC]
                    refine tkA 3 hSa ?_ (hy := by intro _ w; have ck1 := k1 _ w; have ck2 := k2 _ w; have ck3 := k3 _ w; go_simp <;> with_reducible rfl)
                    try simp only [Act.put, sA, sB, sC]
                    refine tkA 4 hSa ?_
                    try simp only [Act.put, sA, sB, sC]
                    refine tkA 5 hSa ?_
                    try simp only [Act.put, sA, sB, sC]
                    refine tkA 6 hSa ?_
                    try simp only [Act.put, sA, sB, sC]
                    refine tkA 7 hSa ?_ (hy := by intro _ w; have ck4 := k4 _ w; have ck5 := k5 _ w; have ck6 := k6 _ w; go_simp <;> with_reducible rfl)
                    try simp only [Act.put, sA, sB, sC]
                    refine tkA 9 hSa ?_
                    try simp only [Act.put, sA, sB, sC]
                    refine tkA 10 hSa ?_
                    try simp only [Act.put, sA, sB, sC]
                    refine tkA 11 hSa ?_
                    try simp only [Act.put, sA, sB, sC]
                    refine on1 8 fun K hK => ?_
                    go_simp
                    refine (cL _).mono ?_
                    rintro e wk1 ⟨rfl, hf1⟩
                    have hSb : KeptN wk wk1 := KeptN.next hSa hf1
                    refine hK.out _ _ hSb ?_
                    clear hK K
                    try simp only [Act.put, sA, sB, sC]
                    refine tkA 12 hSb ?_
                    try simp only [Act.put, sA, sB, sC]
                    refine tkA 13 hSb ?_
                    try simp only [Act.put, sA, sB, sC]
                    refine tkA 14 hSb ?_
                    try simp only [Act.put, sA, sB, sC]
                    refine tkA 15 hSb ?_
                    try simp only [Act.put, sA, sB, sC]
                    refine tkA 16 hSb ?_
                    try simp only [Act.put, sA, sB, sC]
                    refine tkA 17 hSb ?_ (hy := by intro _ w; have ck1 := k1 _ w; have ck2 := k2 _ w; have ck3 := k3 _ w; go_simp <;> with_reducible rfl)
                    try simp only [Act.put, sA, sB, sC]
                    refine tkA 18 hSb ?_
                    try simp only [Act.put, sA, sB, sC]
                    refine tkA 19 hSb ?_
                    try simp only [Act.put, sA, sB, sC]
                    refine tkA 20 hSb ?_
                    try simp only [Act.put, sA, sB, sC]
                    refine tkA 21 hSb ?_ (hy := by intro _ w; have ck4 := k4 _ w; have ck5 := k5 _ w; have ck6 := k6 _ w; go_simp <;> with_reducible rfl)
                    try simp only [Act.put, sA, sB, sC]
                    refine tkA 23 hSb ?_
                    try simp only [Act.put, sA, sB, sC]
                    refine tkA 24 hSb ?_
                    try simp only [Act.put, sA, sB, sC]
                    refine tkA 25 hSb ?_
                    try simp only [Act.put, sA, sB, sC]
                    refine on1 22 fun K hK => ?_
                    go_simp
                    refine (cR _).mono ?_
                    rintro e wk2 ⟨rfl, hf2⟩
                    have hSc : KeptN wk wk2 := KeptN.next hSb hf2
                    refine hK.out _ _ hSc ?_
                    clear hK K
                    try simp only [Act.put, sA, sB, sC]
                    refine tkA 26 hSc ?_
                    try simp only [Act.put, sA, sB, sC]
                    refine tkA 27 hSc ?_
                    try simp only [Act.put, sA, sB, sC]
                    refine wpAnyS_done (by kernel_rfl) ?_
                    have HF2 := Lib.hid (HFK.out.trans0 hSc)
                    clear hSa hSb hSc hf1 hf2 k1 k2 k3 k4 k5 k6 cL cR
                    go_wp2_with fail
                    go_roundw
                    case rel => exact ⟨k + 1, by go_num, by omega, HF2⟩
                    case measure => simp [intOf]; omega
                  | false =>
                    go_wp2_with fail
                    refine wp_region_sink 28 (KeptN wk) (by kernel_rfl) ?_
                    have hSa : KeptN wk wk.drew := KeptN.start wk
                    refine tkA 0 hSa ?_
                    try simp only [Act.put, sA, sB, sC]
                    refine tkA 1 hSa ?_
                    try simp only [Act.put, sA, sB, sC]
                    refine tkA 2 hSa ?_
                    try simp only [Act.put, sA, sB, sC]
                    refine tkA 3 hSa ?_ (hy := by intro _ w; have ck1 := k1 _ w; have ck2 := k2 _ w; have ck3 := k3 _ w; go_simp <;> with_reducible rfl)
                    try simp only [Act.put, sA, sB, sC]
                    refine tkA 4 hSa ?_
                    try simp only [Act.put, sA, sB, sC]
                    refine tkA 5 hSa ?_
                    try simp only [Act.put, sA, sB, sC]
                    refine tkA 6 hSa ?_
                    try simp only [Act.put, sA, sB, sC]
                    refine tkA 7 hSa ?_ (hy := by intro _ w; have ck4 := k4 _ w; have ck5 := k5 _ w; have ck6 := k6 _ w; go_simp <;> with_reducible rfl)
                    try simp only [Act.put, sA, sB, sC]
                    refine tkA 9 hSa ?_
                    try simp only [Act.put, sA, sB, sC]
                    refine tkA 10 hSa ?_
                    try simp only [Act.put, sA, sB, sC]
                    refine tkA 11 hSa ?_
                    try simp only [Act.put, sA, sB, sC]
                    refine on1 8 fun K hK => ?_
                    go_simp
                    refine (cL _).mono ?_
                    rintro e wk1 ⟨rfl, hf1⟩
                    have hSb : KeptN wk wk1 := KeptN.next hSa hf1
                    refine hK.out _ _ hSb ?_
                    clear hK K
                    try simp only [Act.put, sA, sB, sC]
                    refine tkA 12 hSb ?_
                    try simp only [Act.put, sA, sB, sC]
                    refine tkA 13 hSb ?_
                    try simp only [Act.put, sA, sB, sC]
                    refine tkA 14 hSb ?_
                    try simp only [Act.put, sA, sB, sC]
                    refine tkA 15 hSb ?_
                    try simp only [Act.put, sA, sB, sC]
                    refine tkA 16 hSb ?_
                    try simp only [Act.put, sA, sB, sC]
                    refine tkA 17 hSb ?_ (hy := by intro _ w; have ck1 := k1 _ w; have ck2 := k2 _ w; have ck3 := k3 _ w; go_simp <;> with_reducible rfl)
                    try simp only [Act.put, sA, sB, sC]
                    refine tkA 18 hSb ?_
                    try simp only [Act.put, sA, sB, sC]
                    refine tkA 19 hSb ?_
                    try simp only [Act.put, sA, sB, sC]
                    refine tkA 20 hSb ?_
                    try simp only [Act.put, sA, sB, sC]
                    refine tkA 21 hSb ?_ (hy := by intro _ w; have ck4 := k4 _ w; have ck5 := k5 _ w; have ck6 := k6 _ w; go_simp <;> with_reducible rfl)
                    try simp only [Act.put, sA, sB, sC]
                    refine tkA 23 hSb ?_
                    try simp only [Act.put, sA, sB, sC]
                    refine tkA 24 hSb ?_
                    try simp only [Act.put, sA, sB, sC]
                    refine tkA 25 hSb ?_
                    try simp only [Act.put, sA, sB, sC]
                    refine on1 22 fun K hK => ?_
                    go_simp
                    refine (cR _).mono ?_
                    rintro e wk2 ⟨rfl, hf2⟩
                    have hSc : KeptN wk wk2 := KeptN.next hSb hf2
                    refine hK.out _ _ hSc ?_
                    clear hK K
                    try simp only [Act.put, sA, sB, sC]
                    refine tkA 26 hSc ?_
                    try simp only [Act.put, sA, sB, sC]
                    refine tkA 27 hSc ?_
                    try simp only [Act.put, sA, sB, sC]
                    refine wpAnyS_done (by kernel_rfl) ?_
                    have HF2 := Lib.hid (HFK.out.trans0 hSc)
                    clear hSa hSb hSc hf1 hf2 k1 k2 k3 k4 k5 k6 cL cR
                    go_wp2_with fail
                    go_roundw
                    case rel => exact ⟨k + 1, by go_num, by omega, HF2⟩
                    case measure => simp [intOf]; omega
                · obtain rfl : k = 6 := by omega
                  go_wp2_with fail
                  go_roundw
                  case rel => exact ⟨i + 1, by go_num, by omega, HFK⟩
                  case measure => simp [intOf]; omega
            · obtain rfl : i = 6 := by omega
              have HFE := Lib.hid (HFS.out.trans0 HF.out)
              have cW := works_any wi
              go_wp2_with fail
              refine cW.mono ?_
              rintro e w9 ⟨rfl, hf9⟩
              have HF9 := Lib.hid (HFE.out.trans0 hf9)
              clear cW hf9
              go_wp2_with fail
              go_ret
              exact ⟨rfl, HF9.out⟩
end Go.Proofs.YtokeciekncincabGreat
