/-
  The law LockBeside: at all times whoever holds a spot goes beside all others; the first of each queue could not be granted.
  No condition.
-/
import Derived.Test.YtokeciekncincabGreatPkC39
import Derived.Test.YtokeciekncincabGreatPkC31
import Derived.Test.YtokeciekncincabGreatPkC34
import Derived.Test.YtokeciekncincabGreatPkC6
import Derived.Deep.CutBlock
namespace Go.Proofs.YtokeciekncincabGreat
open Go Go.RowKit Go.Maps

section
variable (most : Int) (cv : Value) (l : List CallK) (w : World)
set_option maxRecDepth 100000 in
set_option maxHeartbeats 16000000 in
theorem lbeside_main (hc : KCallsAt w cv l) (hl : l.length ≤ 80) :
    Calls Tryz.prog 22 #[.int .i64 most, cv] w fun e w' => e = .returned (.bool true) ∧ Fr w w' Nil := by
  obtain ⟨ca, cc, rfl, hcc⟩ := hc.shape
  have cN := new_U most w
  have hcl80 : ¬ (80 : Int) < (l.length : Int) := by omega
  have HC := Lib.hid hc
  clear hc
  go_enter Tryz.func22, Tryz.ntmps22
  go_wp2_with fail
  refine cN.mono ?_
  rintro e w1 ⟨lb, rfl, hU, hf1⟩
  have HU1 := Lib.hid hU
  have HF1 := Lib.hid hf1
  have HK1 := Lib.hid (kinv_nil most)
  clear cN hU hf1
  go_wp2_with fail
  go_loopw [6] (fun vi wr => ∃ (i : Nat) (D : LkS), vi = .int .i64 (i : Int) ∧ i ≤ l.length ∧ Hid (LkU wr lb D i (3 + 4 * i) (Low w.heap.size)) ∧ Hid (KInv most D) ∧ Hid (Fr w wr Nil)) (fun vi _ => l.length - (intOf vi).toNat)
  case atStart => exact ⟨0, _, rfl, by omega, HU1.out, HK1.out, HF1.out⟩
  case round =>
    clear HU1 HF1 HK1
    obtain ⟨i, D, rfl, hi, HU, HK, HFR⟩ := hrel
    obtain ⟨wo, rfl⟩ : ∃ wo : World, wo = wr := ⟨_, rfl⟩
    have hzz : w.heap.size ≤ wo.heap.size := HFR.out.size
    by_cases hlt : i < l.length
    · have hil : (i : Int) < (l.length : Int) := by omega
      obtain ⟨b, off, cap', hvv, hcl⟩ := HC.out.form (by omega)
      simp only [Value.slice.injEq, true_and] at hvv
      obtain ⟨rfl, rfl⟩ := hvv
      obtain ⟨t, ht⟩ : ∃ t, l[i]? = some t := ⟨_, List.getElem?_eq_getElem hlt⟩
      have hcw : ∀ j u, t.vals[j]? = some u → wo.cell? ⟨b, off + i * 6 + j, none⟩ = some u := fun j u hu => HFR.out.cell (hcl i t ht j u hu) (fun h => h)
      have p0 := hcw 0 _ rfl
      have p1 := hcw 1 _ rfl
      have p2 := hcw 2 _ rfl
      have p3 := hcw 3 _ rfl
      have p4 := hcw 4 _ rfl
      have p5 := hcw 5 _ rfl
      simp only [Nat.add_zero] at p0
      have OKT : Hid ((Lit.int .i64 t.who).wf = true ∧ SWf t.s ∧ 0 ≤ t.m) := ⟨t.okw, t.oks, t.okm.1⟩
      clear ht hcw hcl
      obtain ⟨tkd, who, s, m, okk, okw, oks, okm⟩ := t
      dsimp only at p0 p1 p2 p3 p4 p5 OKT 
      clear okk okw oks okm
      have OKW := Lib.hid OKT.out.1
      have OKS := Lib.hid OKT.out.2.1
      have OKM := Lib.hid OKT.out.2.2
      clear OKT
      obtain ⟨kd, hkd⟩ : ∃ kd : Int, tkd.tmod 10 = kd := ⟨_, rfl⟩
      obtain ⟨w5, hw5⟩ : ∃ w5, wo.alloc (.cells #[.int .u8 tkd, .int .i64 who, .int .i64 s.1, .bool s.2.1, .int .i64 s.2.2, .int .u8 m] 33) = w5 := ⟨_, rfl⟩
      have hf5 : Fr wo w5 Nil := by rw [← hw5]; exact (Fr.refl wo Nil).alloc _
      have hb5 : Bk w5 wo.heap.size 33 [.int .u8 tkd, .int .i64 who, .int .i64 s.1, .bool s.2.1, .int .i64 s.2.2, .int .u8 m] := by rw [← hw5]; exact Bk.new wo _ _
      have hz5 : w5.heap.size = wo.heap.size + 1 := by rw [← hw5]; exact World.size_alloc _ _
      have x0 : w5.cell? ⟨wo.heap.size, 0, none⟩ = some (.int .u8 tkd) := hb5.cell 0
      have x1 : w5.cell? ⟨wo.heap.size, 1, none⟩ = some (.int .i64 who) := hb5.cell 1
      have x2 : w5.cell? ⟨wo.heap.size, 2, none⟩ = some (.int .i64 s.1) := hb5.cell 2
      have x3 : w5.cell? ⟨wo.heap.size, 3, none⟩ = some (.bool s.2.1) := hb5.cell 3
      have x4 : w5.cell? ⟨wo.heap.size, 4, none⟩ = some (.int .i64 s.2.2) := hb5.cell 4
      have x5 : w5.cell? ⟨wo.heap.size, 5, none⟩ = some (.int .u8 m) := hb5.cell 5
      have HU5 : Hid (LkU w5 lb D i (3 + 4 * i) (AtA w.heap.size wo.heap.size)) := (HU.out.not fun k h1 h2 => (⟨h1, by omega⟩ : AtA w.heap.size wo.heap.size k)).fr0 hf5
      have HA5 : Hid (∀ k, w5.heap.size ≤ k → AtA w.heap.size wo.heap.size k) := fun k hk => ⟨by show w.heap.size ≤ k; have := HFR.out.size; omega, by omega⟩
      have HF5 := Lib.hid (HFR.out.trans0 hf5)
      have HB5 := Lib.hid hb5
      have HZ5 := Lib.hid hz5
      have hN9 : i ≤ 100000 := by omega
      have hK9 : 3 + 4 * i ≤ 1000000000 := by omega
      have cD := HU5.out.held who s OKW.out OKS.out
      obtain ⟨hd0, hhd0⟩ : ∃ x, heldL D.H who s = x := ⟨_, rfl⟩
      rw [hhd0] at cD
      have HHD := Lib.hid hhd0
      clear hf5 hb5 hz5 hhd0
      go_wp2_with fail
      refine cD.mono ?_
      rintro e w5' ⟨rfl, hf5⟩
      have HU5' := Lib.hid (HU5.out.fr0 hf5)
      have HB5' := Lib.hid (HB5.out.fr hf5 fun h => h)
      have HF5' := Lib.hid (HF5.out.trans0 hf5)
      have HA5' : Hid (∀ k, w5'.heap.size ≤ k → (AtA w.heap.size wo.heap.size) k) := fun k hk => HA5.out k (Nat.le_trans hf5.size hk)
      clear HU5 HB5 HF5 HA5 HZ5 cD hf5 x0 x1 x2 x3 x4 x5
      clear hw5 w5
      obtain ⟨w5, rfl⟩ : ∃ w5 : World, w5 = w5' := ⟨_, rfl⟩
      have HU5 := HU5'
      have HB5 := HB5'
      have HF5 := HF5'
      have HA5 := HA5'
      clear HU5' HB5' HF5' HA5'
      have x0 : w5.cell? ⟨wo.heap.size, 0, none⟩ = some (.int .u8 tkd) := HB5.out.cell 0
      have x1 : w5.cell? ⟨wo.heap.size, 1, none⟩ = some (.int .i64 who) := HB5.out.cell 1
      have x2 : w5.cell? ⟨wo.heap.size, 2, none⟩ = some (.int .i64 s.1) := HB5.out.cell 2
      have x3 : w5.cell? ⟨wo.heap.size, 3, none⟩ = some (.bool s.2.1) := HB5.out.cell 3
      have x4 : w5.cell? ⟨wo.heap.size, 4, none⟩ = some (.int .i64 s.2.2) := HB5.out.cell 4
      have x5 : w5.cell? ⟨wo.heap.size, 5, none⟩ = some (.int .u8 m) := HB5.out.cell 5
      go_upto_block 2 with fail
      go_cut [9, 10] from 39 to 116 (fun v9 v10 wx => ∃ (D2 : LkS), Hid (LkU wx lb D2 (i + 1) (3 + 4 * (i + 1)) (AtA w.heap.size wo.heap.size)) ∧ Hid (KInv most D2) ∧ Hid (Fr w5 wx (AtA w.heap.size wo.heap.size)))
      case first =>
        rcases kinds kd with (h6 | h9 | h7 | h8) | ⟨h6, h9, h7, h8⟩
        · subst h6
          go_wp2_with fail
          refine (HU5.out.free who s hN9 OKW.out OKS.out).mono ?_
          rintro e w6 ⟨ov, rfl, h1, hU, hf⟩
          obtain ⟨oa, oc, rfl⟩ := h1.shape
          have HU6 := Lib.hid hU
          have HF6 := Lib.hid hf
          clear h1 hU hf
          go_wp2_with fail
          go_meet
          have hK := doKd_k (kd := 6) HK.out who s m
          rw [doKd_free (.inl rfl) D who s m] at hK
          exact ⟨_, HU6.out.more (Nat.le_succ _) (by omega), hK, HF6.out⟩
        · subst h9
          go_wp2_with fail
          refine (HU5.out.free who s hN9 OKW.out OKS.out).mono ?_
          rintro e w6 ⟨ov, rfl, h1, hU, hf⟩
          obtain ⟨oa, oc, rfl⟩ := h1.shape
          have HU6 := Lib.hid hU
          have HF6 := Lib.hid hf
          clear h1 hU hf
          go_wp2_with fail
          go_meet
          have hK := doKd_k (kd := 9) HK.out who s m
          rw [doKd_free (.inr rfl) D who s m] at hK
          exact ⟨_, HU6.out.more (Nat.le_succ _) (by omega), hK, HF6.out⟩
        · subst h7
          go_wp2_with fail
          refine (HU5.out.cancel who hN9 OKW.out).mono ?_
          rintro e w6 ⟨ov, rfl, h1, hU, hf⟩
          obtain ⟨oa, oc, rfl⟩ := h1.shape
          have HU6 := Lib.hid hU
          have HF6 := Lib.hid hf
          clear h1 hU hf
          go_wp2_with fail
          go_meet
          have hK := doKd_k (kd := 7) HK.out who s m
          rw [doKd_cancel D who s m] at hK
          exact ⟨_, HU6.out.more (Nat.le_succ _) (by omega), hK, HF6.out⟩
        · subst h8
          go_wp2_with fail
          refine (HU5.out.leave who hN9 OKW.out).mono ?_
          rintro e w6 ⟨ov, rfl, h1, hU, hf⟩
          obtain ⟨oa, oc, rfl⟩ := h1.shape
          have HU6 := Lib.hid hU
          have HF6 := Lib.hid hf
          have HB6 := Lib.hid (HB5.out.fr hf (fun h => h.2 rfl))
          have y1 : w6.cell? ⟨wo.heap.size, 1, none⟩ = some (.int .i64 who) := HB6.out.cell 1
          have cS := HU6.out.spots who hN9 OKW.out
          rw [left_spots D (all_true D) who] at cS
          clear h1 hU hf
          go_wp2_with fail
          refine cS.mono ?_
          rintro e w7 ⟨v7, rfl, g1, g2, hf7⟩
          obtain ⟨sa, sc, rfl⟩ := g1.shape
          have HU7 := Lib.hid (HU6.out.fr0 hf7)
          have HF7 := Lib.hid hf7
          replace y1 : w7.cell? ⟨wo.heap.size, 1, none⟩ = some (.int .i64 who) := (HB6.out.fr hf7 (fun h => h)).cell 1
          have cF := HU7.out.for_ who hN9 OKW.out
          rw [show forL (leaveL D who).2 who = [] by unfold forL; rw [left_for D (all_true D) who]] at cF
          clear cS g1 g2 hf7
          go_wp2_with fail
          refine cF.mono ?_
          rintro e w8 ⟨v8, rfl, g1, g2, hf8⟩
          obtain ⟨fa, fc, rfl⟩ := g1.shape
          have HU8 := Lib.hid (HU7.out.fr0 hf8)
          have HF8 : Hid (Fr w5 w8 (AtA w.heap.size wo.heap.size)) := HF6.out.trans ((HF7.out.trans0 hf8).of_nil) fun _ _ h => h
          clear cF g1 g2 hf8 y1
          go_wp2_with fail
          go_meet
          have hK := doKd_k (kd := 8) HK.out who s m
          rw [doKd_leave D who s m] at hK
          exact ⟨_, HU8.out.more (Nat.le_succ _) (by omega), hK, HF8.out⟩
        · have b6 : (kd == 6) = false := by rw [beq_eq_false_iff_ne]; exact h6
          have b9 : (kd == 9) = false := by rw [beq_eq_false_iff_ne]; exact h9
          have b7 : (kd == 7) = false := by rw [beq_eq_false_iff_ne]; exact h7
          have b8 : (kd == 8) = false := by rw [beq_eq_false_iff_ne]; exact h8
          have HK6 := Lib.hid (doKd_ask h6 h9 h7 h8 D who s m)
          have htl := ask_tells HK.out.b.inv who s m
          have her := ask_err (D := D) (who := who) (s := s) (m := m)
          have hmo := ask_mode (D := D) (who := who) (s := s) (m := m)
          have cA := HU5.out.ask HA5.out who s m hN9 hK9 OKW.out OKS.out OKM.out
          have HIN6 := Lib.hid (askL_inv HK.out.b.inv who s m)
          rw [HHD.out] at htl
          obtain ⟨D6, hD6⟩ : ∃ x, (askL D who s m).2 = x := ⟨_, rfl⟩
          obtain ⟨is, his⟩ : ∃ x, (askL D who s m).1.1 = x := ⟨_, rfl⟩
          obtain ⟨er, hher⟩ : ∃ x, (askL D who s m).1.2 = x := ⟨_, rfl⟩
          rw [hD6] at htl cA HIN6 HK6
          rw [his] at htl cA her
          rw [hher] at htl cA her hmo
          have HTL := Lib.hid htl
          have HER := Lib.hid her
          have HMO := Lib.hid hmo
          clear h6 h9 h7 h8 hD6 his hher htl her hmo
          go_wp2_with fail
          refine cA.mono ?_
          rintro e w6 ⟨rfl, hU, hf⟩
          have HU6 := Lib.hid hU
          have HF6 := Lib.hid hf
          have HB6 := Lib.hid (HB5.out.fr hf (fun h => h.2 rfl))
          have y1 : ∀ w', KeptN w6 w' → w'.cell? ⟨wo.heap.size, 1, none⟩ = some (.int .i64 who) := KeptN.cell (HB6.out.cell 1)
          have y2 : ∀ w', KeptN w6 w' → w'.cell? ⟨wo.heap.size, 2, none⟩ = some (.int .i64 s.1) := KeptN.cell (HB6.out.cell 2)
          have y3 : ∀ w', KeptN w6 w' → w'.cell? ⟨wo.heap.size, 3, none⟩ = some (.bool s.2.1) := KeptN.cell (HB6.out.cell 3)
          have y4 : ∀ w', KeptN w6 w' → w'.cell? ⟨wo.heap.size, 4, none⟩ = some (.int .i64 s.2.2) := KeptN.cell (HB6.out.cell 4)
          have y5 : ∀ w', KeptN w6 w' → w'.cell? ⟨wo.heap.size, 5, none⟩ = some (.int .u8 m) := KeptN.cell (HB6.out.cell 5)
          clear hU hf cA b6 b9 b7 b8 x0 x1 x2 x3 x4 x5
          go_wp2_with fail
          refine wp_region_sink 32 (KeptN w6) (by kernel_rfl) ?_
          have hSa : KeptN w6 w6.drew := KeptN.start w6
          by_cases he0 : er = 0
          · have HTT := Lib.hid (HTL.out he0)
            have HMM := Lib.hid (HMO.out he0)
            subst he0
            have HMD : Hid (ModeOk hd0) := by
              have h9 : ModeOk hd0 := (by rw [← HHD.out]; exact heldL_ok HK.out.b.inv who s)
              exact h9
            obtain ⟨hn, hhn⟩ : ∃ x, heldL D6.H who s = x := ⟨_, rfl⟩
            have HHN := Lib.hid hhn
            have HMN : Hid (ModeOk hn) := by
              have h9 : ModeOk hn := (by rw [← hhn]; exact heldL_ok HIN6.out who s)
              exact h9
            clear hhn
            have cC := covs_any HMN.out HMM.out
            unfold CovsAt at cC
            have hcv : covM hn m = is := by rw [← HHN.out]; exact HTT.out.1.symm
            rw [hcv] at cC
            have HJ : Hid (is = true → joinM hd0 m = hn) := fun h => by
              have h1 := HTT.out.2 h
              rw [HHN.out] at h1
              exact h1.symm
            clear hcv
            refine tkA 0 hSa ?_
            refine tkA 1 hSa ?_
            refine tkA 2 hSa ?_
            refine tkA 3 hSa ?_
            refine tkA 4 hSa ?_
            refine tkA 5 hSa ?_
            try simp only [Act.put, sA, sB, sC]
            refine tkA 6 hSa ?_ (hy := by intro _ w; have cy1 := y1 _ w; go_simp <;> with_reducible rfl)
            try simp only [Act.put, sA, sB, sC]
            refine tkA 7 hSa ?_
            try simp only [Act.put, sA, sB, sC]
            refine tkA 8 hSa ?_ (hy := by intro _ w; have cy2 := y2 _ w; have cy3 := y3 _ w; have cy4 := y4 _ w; go_simp <;> with_reducible rfl)
            try simp only [Act.put, sA, sB, sC]
            refine tkA 10 hSa ?_
            try simp only [Act.put, sA, sB, sC]
            refine tkA 11 hSa ?_ (hy := by intro _ w; have cy5 := y5 _ w; go_simp <;> with_reducible rfl)
            try simp only [Act.put, sA, sB, sC]
            refine on1 9 fun K hK => ?_
            go_simp
            have cH := (HU6.out.fr0 hSa.fr).held who s OKW.out OKS.out
            rw [HHN.out] at cH
            refine cH.mono ?_
            rintro e wa ⟨rfl, hfa⟩
            have hSb : KeptN w6 wa := hSa.next hfa
            refine hK.out _ _ hSb ?_
            clear hK K cH
            try simp only [Act.put, sA, sB, sC]
            refine on1 12 fun K hK => ?_
            go_simp
            refine (cC wa).mono ?_
            rintro e wb ⟨rfl, hwb⟩
            rw [hwb]
            refine hK.out _ _ hSb ?_
            clear hK K
            try simp only [Act.put, sA, sB, sC]
            cases is
            · skip
              refine tkA 13 hSb ?_
              refine tkA 14 hSb ?_
              refine tkA 15 hSb ?_
              refine tkA 16 hSb ?_
              refine tkA 17 hSb ?_
              try simp only [Act.put, sA, sB, sC]
              refine skA 18 hSb ?_
              try simp only [Act.put, sA, sB, sC]
              refine skA 19 hSb ?_
              try simp only [Act.put, sA, sB, sC]
              refine skA 20 hSb ?_
              try simp only [Act.put, sA, sB, sC]
              refine skA 21 hSb ?_
              try simp only [Act.put, sA, sB, sC]
              refine skA 22 hSb ?_
              try simp only [Act.put, sA, sB, sC]
              refine skA 23 hSb ?_
              try simp only [Act.put, sA, sB, sC]
              refine skA 24 hSb ?_
              try simp only [Act.put, sA, sB, sC]
              refine skA 25 hSb ?_
              try simp only [Act.put, sA, sB, sC]
              refine skA 26 hSb ?_
              try simp only [Act.put, sA, sB, sC]
              refine skA 27 hSb ?_
              try simp only [Act.put, sA, sB, sC]
              refine skA 28 hSb ?_
              try simp only [Act.put, sA, sB, sC]
              refine skA 29 hSb ?_
              try simp only [Act.put, sA, sB, sC]
              refine tkA 30 hSb ?_
              refine tkA 31 hSb ?_
              try simp only [Act.put, sA, sB, sC]
              refine wpAnyS_done (by kernel_rfl) ?_
              have HSE : Hid (Fr w5 wa (AtA w.heap.size wo.heap.size)) := HF6.out.trans (hSb.fr.of_nil) fun _ _ h => h
              have HUE := Lib.hid (HU6.out.fr0 hSb.fr)
              clear hSa hSb cC
              go_wp2_with fail
              go_meet
              have hK := doKd_k (kd := kd) HK.out who s m
              rw [HK6.out] at hK
              exact ⟨_, HUE.out, hK, HSE.out⟩
            · have HJN := Lib.hid (HJ.out rfl)
              refine tkA 13 hSb ?_
              refine tkA 14 hSb ?_
              refine tkA 15 hSb ?_
              refine tkA 16 hSb ?_
              refine tkA 17 hSb ?_
              refine tkA 18 hSb ?_
              refine tkA 19 hSb ?_
              try simp only [Act.put, sA, sB, sC]
              refine tkA 20 hSb ?_ (hy := by intro _ w; have cy1 := y1 _ w; go_simp <;> with_reducible rfl)
              try simp only [Act.put, sA, sB, sC]
              refine tkA 21 hSb ?_
              try simp only [Act.put, sA, sB, sC]
              refine tkA 22 hSb ?_ (hy := by intro _ w; have cy2 := y2 _ w; have cy3 := y3 _ w; have cy4 := y4 _ w; go_simp <;> with_reducible rfl)
              try simp only [Act.put, sA, sB, sC]
              refine tkA 24 hSb ?_
              refine tkA 25 hSb ?_
              try simp only [Act.put, sA, sB, sC]
              refine tkA 26 hSb ?_ (hy := by intro _ w; have cy5 := y5 _ w; go_simp <;> with_reducible rfl)
              try simp only [Act.put, sA, sB, sC]
              refine wpAnyS_two (i := 23) (j := 27) rfl rfl (by kernel_rfl) (by decide) (by decide) (by rfl) (by rfl) (fun K hK => ?_) (fun K hK => ?_)
              · go_simp
                have cH := (HU6.out.fr0 hSb.fr).held who s OKW.out OKS.out
                rw [HHN.out] at cH
                refine cH.mono ?_
                rintro e wc ⟨rfl, hfc⟩
                have hSc : KeptN w6 wc := hSb.next hfc
                refine hK.out _ _ hSc ?_
                clear hK K cH
                try simp only [Act.put, sA, sB, sC]
                refine on1 27 fun K hK => ?_
                go_simp
                obtain ⟨wd, hwd⟩ : ∃ x, wc.alloc (.cells #[.int .u8 hd0, .int .u8 m] 31) = x := ⟨_, rfl⟩
                try rw [hwd]
                have SJ : KeptN w6 wd := hSc.next (by rw [← hwd]; exact (Fr.refl wc Nil).alloc _)
                have BJ : Bk wd wc.heap.size 31 [.int .u8 hd0, .int .u8 m] := by rw [← hwd]; exact Bk.new wc _ _
                refine hK.out _ _ SJ ?_
                clear hK K hSc hfc hwd
                try simp only [Act.put, sA, sB, sC]
                have r0 : wd.cell? ⟨wc.heap.size, 0, none⟩ = some (.int .u8 hd0) := BJ.cell 0
                have r1 : wd.cell? ⟨wc.heap.size, 1, none⟩ = some (.int .u8 m) := BJ.cell 1
                refine on1 28 fun K hK => ?_
                go_simp
                have cJ := rjoin_any HMD.out HMM.out wc.heap.size wd r0 r1
                rw [HJN.out] at cJ
                refine cJ.mono ?_
                rintro e wk ⟨rfl, hfk⟩
                have hSe : KeptN w6 wk := SJ.next hfk
                refine hK.out _ _ hSe ?_
                clear hK K cJ
                try simp only [Act.put, sA, sB, sC]
                refine tkA 29 hSe ?_
                refine tkA 30 hSe ?_
                refine tkA 31 hSe ?_
                try simp only [Act.put, sA, sB, sC]
                refine wpAnyS_done (by kernel_rfl) ?_
                have HSE : Hid (Fr w5 wk (AtA w.heap.size wo.heap.size)) := HF6.out.trans (hSe.fr.of_nil) fun _ _ h => h
                have HUE := Lib.hid (HU6.out.fr0 hSe.fr)
                clear hSa hSb hSe SJ BJ r0 r1 cC
                go_wp2_with fail
                go_meet
                have hK := doKd_k (kd := kd) HK.out who s m
                rw [HK6.out] at hK
                exact ⟨_, HUE.out, hK, HSE.out⟩
              · go_simp
                obtain ⟨wd, hwd⟩ : ∃ x, wa.alloc (.cells #[.int .u8 hd0, .int .u8 m] 31) = x := ⟨_, rfl⟩
                try rw [hwd]
                have hSd : KeptN w6 wd := hSb.next (by rw [← hwd]; exact (Fr.refl wa Nil).alloc _)
                have hbd : Bk wd wa.heap.size 31 [.int .u8 hd0, .int .u8 m] := by rw [← hwd]; exact Bk.new wa _ _
                refine hK.out _ _ hSd ?_
                clear hK K hwd
                try simp only [Act.put, sA, sB, sC]
                refine on1 23 fun K hK => ?_
                go_simp
                have cH := (HU6.out.fr0 hSd.fr).held who s OKW.out OKS.out
                rw [HHN.out] at cH
                refine cH.mono ?_
                rintro e wc ⟨rfl, hfc⟩
                have SJ : KeptN w6 wc := hSd.next hfc
                have BJ := hbd.fr hfc (fun h => h)
                refine hK.out _ _ SJ ?_
                clear hK K cH hSd hbd hfc
                try simp only [Act.put, sA, sB, sC]
                have r0 : wc.cell? ⟨wa.heap.size, 0, none⟩ = some (.int .u8 hd0) := BJ.cell 0
                have r1 : wc.cell? ⟨wa.heap.size, 1, none⟩ = some (.int .u8 m) := BJ.cell 1
                refine on1 28 fun K hK => ?_
                go_simp
                have cJ := rjoin_any HMD.out HMM.out wa.heap.size wc r0 r1
                rw [HJN.out] at cJ
                refine cJ.mono ?_
                rintro e wk ⟨rfl, hfk⟩
                have hSe : KeptN w6 wk := SJ.next hfk
                refine hK.out _ _ hSe ?_
                clear hK K cJ
                try simp only [Act.put, sA, sB, sC]
                refine tkA 29 hSe ?_
                refine tkA 30 hSe ?_
                refine tkA 31 hSe ?_
                try simp only [Act.put, sA, sB, sC]
                refine wpAnyS_done (by kernel_rfl) ?_
                have HSE : Hid (Fr w5 wk (AtA w.heap.size wo.heap.size)) := HF6.out.trans (hSe.fr.of_nil) fun _ _ h => h
                have HUE := Lib.hid (HU6.out.fr0 hSe.fr)
                clear hSa hSb hSe SJ BJ r0 r1 cC
                go_wp2_with fail
                go_meet
                have hK := doKd_k (kd := kd) HK.out who s m
                rw [HK6.out] at hK
                exact ⟨_, HUE.out, hK, HSE.out⟩
          · have hi0 := HER.out he0
            subst hi0
            have ke : ∀ w', KeptN w6 w' → (er == 0) = false := fun _ _ => by rw [beq_eq_false_iff_ne]; exact he0
            refine tkA 0 hSa ?_
            refine tkA 1 hSa ?_
            try simp only [Act.put, sA, sB, sC]
            refine tkA 2 hSa ?_ (hy := by intro _ w; have cke := ke _ w; go_simp <;> with_reducible rfl)
            try simp only [Act.put, sA, sB, sC]
            refine tkA 3 hSa ?_
            try simp only [Act.put, sA, sB, sC]
            refine skA 4 hSa ?_
            try simp only [Act.put, sA, sB, sC]
            refine skA 5 hSa ?_
            try simp only [Act.put, sA, sB, sC]
            refine skA 6 hSa ?_
            try simp only [Act.put, sA, sB, sC]
            refine skA 7 hSa ?_
            try simp only [Act.put, sA, sB, sC]
            refine skA 8 hSa ?_
            try simp only [Act.put, sA, sB, sC]
            refine skA 9 hSa ?_
            try simp only [Act.put, sA, sB, sC]
            refine skA 10 hSa ?_
            try simp only [Act.put, sA, sB, sC]
            refine skA 11 hSa ?_
            try simp only [Act.put, sA, sB, sC]
            refine skA 12 hSa ?_
            try simp only [Act.put, sA, sB, sC]
            refine tkA 13 hSa ?_
            refine tkA 14 hSa ?_
            refine tkA 15 hSa ?_
            refine tkA 16 hSa ?_
            refine tkA 17 hSa ?_
            try simp only [Act.put, sA, sB, sC]
            refine skA 18 hSa ?_
            try simp only [Act.put, sA, sB, sC]
            refine skA 19 hSa ?_
            try simp only [Act.put, sA, sB, sC]
            refine skA 20 hSa ?_
            try simp only [Act.put, sA, sB, sC]
            refine skA 21 hSa ?_
            try simp only [Act.put, sA, sB, sC]
            refine skA 22 hSa ?_
            try simp only [Act.put, sA, sB, sC]
            refine skA 23 hSa ?_
            try simp only [Act.put, sA, sB, sC]
            refine skA 24 hSa ?_
            try simp only [Act.put, sA, sB, sC]
            refine skA 25 hSa ?_
            try simp only [Act.put, sA, sB, sC]
            refine skA 26 hSa ?_
            try simp only [Act.put, sA, sB, sC]
            refine skA 27 hSa ?_
            try simp only [Act.put, sA, sB, sC]
            refine skA 28 hSa ?_
            try simp only [Act.put, sA, sB, sC]
            refine skA 29 hSa ?_
            try simp only [Act.put, sA, sB, sC]
            refine tkA 30 hSa ?_
            refine tkA 31 hSa ?_
            try simp only [Act.put, sA, sB, sC]
            refine wpAnyS_done (by kernel_rfl) ?_
            have HSE : Hid (Fr w5 w6.drew (AtA w.heap.size wo.heap.size)) := HF6.out.trans (hSa.fr.of_nil) fun _ _ h => h
            have HUE := Lib.hid (HU6.out.fr0 hSa.fr)
            clear hSa
            go_wp2_with fail
            go_meet
            have hK := doKd_k (kd := kd) HK.out who s m
            rw [HK6.out] at hK
            exact ⟨_, HUE.out, hK, HSE.out⟩
      case rest =>
        obtain ⟨D2, HU2, HK2, HF2⟩ := hcut
        have HW2 : Hid (Fr w wc Nil) := low_back HF5.out HF2.out fun k h => h.1
        have hN2 : i + 1 ≤ 100000 := by omega
        clear HU HK HU5 HB5 HF5 HA5 x0 x1 x2 x3 x4 x5 hkd HHD
        go_wp2_with fail
        go_loopw [11] (fun vk wr => ∃ k : Nat, vk = .int .i64 (k : Int) ∧ k ≤ l.length ∧ Hid (Fr wc wr Nil)) (fun vk _ => l.length - (intOf vk).toNat)
        case atStart => exact ⟨0, by go_num, by omega, Fr.refl _ _⟩
        case round =>
          obtain ⟨k, rfl, hk, HG⟩ := hrel
          obtain ⟨wi, rfl⟩ : ∃ wi : World, wi = wr := ⟨_, rfl⟩
          by_cases hlk : k < l.length
          · have hkl : (k : Int) < (l.length : Int) := by omega
            obtain ⟨u, hu⟩ : ∃ u, l[k]? = some u := ⟨_, List.getElem?_eq_getElem hlk⟩
            have HWI := Lib.hid (HW2.out.trans0 HG.out)
            obtain ⟨b2, off2, cap2, hvv2, hcl2⟩ := HC.out.form (by omega)
            simp only [Value.slice.injEq, Option.some.injEq, Addr.mk.injEq, and_true, true_and] at hvv2
            obtain ⟨⟨rfl, rfl⟩, rfl⟩ := hvv2
            have z2 : ∀ w', KeptN wi w' → w'.cell? ⟨b, off + k * 6 + 2, none⟩ = some (.int .i64 u.s.1) := KeptN.cell (HWI.out.cell (hcl2 k u hu 2 _ rfl) (fun h => h))
            have z3 : ∀ w', KeptN wi w' → w'.cell? ⟨b, off + k * 6 + 3, none⟩ = some (.bool u.s.2.1) := KeptN.cell (HWI.out.cell (hcl2 k u hu 3 _ rfl) (fun h => h))
            have z4 : ∀ w', KeptN wi w' → w'.cell? ⟨b, off + k * 6 + 4, none⟩ = some (.int .i64 u.s.2.2) := KeptN.cell (HWI.out.cell (hcl2 k u hu 4 _ rfl) (fun h => h))
            have HUS := Lib.hid u.oks
            generalize u.s = us at *
            have HAB := Lib.hid (allBes_holders HK2.out.b us)
            have HOQ := Lib.hid (okQ_queue HK2.out.b us)
            have hhl : (holdersL D2.H us).length ≤ 1000000 := by rw [holdersL_len]; have := holds_few HU2.out.ok us; omega
            have hql : (prs (queueL D2.H D2.W us)).length ≤ 1000000 := by rw [prs_queue, List.length_append]; have := queue_few HU2.out.ok us; omega
            have HHL := Lib.hid hhl
            have HQL := Lib.hid hql
            have cHo := (HU2.out.fr0 HG.out).holders us hN2 HUS.out
            clear hu hcl2 hhl hql
            go_wp2_with fail
            refine wp_region_sink 15 (KeptN wi) (by kernel_rfl) ?_
            have hSa : KeptN wi wi.drew := KeptN.start wi
            refine tk 0 hSa ?_
            refine tk 1 hSa ?_
            refine tk 2 hSa ?_
            refine tk 3 hSa ?_
            refine tk 4 hSa ?_
            try simp only [Act.put, sA, sB, sC]
            refine tk 5 hSa ?_ (hy := by intro _ w; have cz2 := z2 _ w; have cz3 := z3 _ w; have cz4 := z4 _ w; go_simp <;> with_reducible rfl)
            try simp only [Act.put, sA, sB, sC]
            refine tk 7 hSa ?_
            refine tk 8 hSa ?_
            refine tk 9 hSa ?_
            refine tk 10 hSa ?_
            refine tk 11 hSa ?_
            try simp only [Act.put, sA, sB, sC]
            refine tk 12 hSa ?_ (hy := by intro _ w; have cz2 := z2 _ w; have cz3 := z3 _ w; have cz4 := z4 _ w; go_simp <;> with_reducible rfl)
            try simp only [Act.put, sA, sB, sC]
            refine on1 6 fun K hK => ?_
            go_simp
            refine (((HU2.out.fr0 HG.out).fr0 hSa.fr).holders us hN2 HUS.out).mono ?_
            rintro e wa ⟨va, rfl, g1, g2, hfa⟩
            have hSb : KeptN wi wa := hSa.next hfa
            refine hK.out _ _ hSb ?_
            clear hK K cHo
            try simp only [Act.put, sA, sB, sC]
            refine on1 13 fun K hK => ?_
            go_simp
            refine (((HU2.out.fr0 HG.out).fr0 hSb.fr).queue us hN2 HUS.out).mono ?_
            rintro e wb ⟨vb, rfl, q1, q2, hfb⟩
            have hSc : KeptN wi wb := hSb.next hfb
            refine hK.out _ _ hSc ?_
            clear hK K
            try simp only [Act.put, sA, sB, sC]
            refine tk 14 hSc ?_
            try simp only [Act.put, sA, sB, sC]
            refine wpAnyS_last (i := 15) rfl (by kernel_rfl) (by decide) (by kernel_rfl) (by rfl) fun K hK => ?_
            go_simp
            refine hK.out _ _ ?_
            clear hK K
            have HH1 := Lib.hid (g1.fr hfb fun _ _ h => h)
            have HQ1 := Lib.hid q1
            have HSC := Lib.hid hSc.fr
            clear hSa hSb hSc g1 g2 q1 q2 hfa hfb z2 z3 z4
            have cB := lbes_any (w := wb) (SlAt.of_own HH1.out).1 HAB.out HHL.out
            generalize holdersL D2.H us = hh at *
            generalize prs (queueL D2.H D2.W us) = qq at *
            obtain ⟨ha, hc_, rfl⟩ := HH1.out.shape
            obtain ⟨qa, qc, rfl⟩ := HQ1.out.shape
            go_wp2_with fail
            refine cB.mono ?_
            rintro e wd ⟨rfl, hfd⟩
            have cQ := lblk_any (w := wd) (SlAt.of_own (HH1.out.fr hfd fun _ _ h => h)).1 (SlAt.of_own (HQ1.out.fr hfd fun _ _ h => h)).1 HOQ.out HHL.out HQL.out
            have HFD := Lib.hid (HSC.out.trans0 hfd)
            clear cB hfd
            go_wp2_with fail
            refine cQ.mono ?_
            rintro e we ⟨rfl, hfe⟩
            have HFE := Lib.hid (HG.out.trans0 (HFD.out.trans0 hfe))
            clear cQ hfe
            go_wp2_with fail
            go_roundw
            case rel => exact ⟨k + 1, by go_num, by omega, HFE⟩
            case measure => simp [intOf]; omega
          · obtain rfl : k = l.length := by omega
            have HWI := Lib.hid (HW2.out.trans0 HG.out)
            have HU4 := Lib.hid (HU2.out.fr0 HG.out)
            by_cases hm0 : 0 ≤ most
            · have cU := HU4.out.used hN2
              have hub : ¬ most < ((usedL D2 : Nat) : Int) := by
                have h1 := HK2.out.used
                have h2 := HK2.out.most_
                omega
              generalize usedL D2 = us at *
              go_wp2_with fail
              refine cU.mono ?_
              rintro e wa ⟨rfl, hfa⟩
              have HWA := Lib.hid (HWI.out.trans0 hfa)
              have HUA := Lib.hid (HU4.out.fr0 hfa)
              clear cU hfa
              go_wp2_with fail
              go_roundw
              case rel => exact ⟨i + 1, D2, by go_num, by omega, HUA.out.weak ata_low, HK2.out, HWA.out⟩
              case measure => simp [intOf]; omega
            · go_wp2_with fail
              go_roundw
              case rel => exact ⟨i + 1, D2, by go_num, by omega, HU4.out.weak ata_low, HK2.out, HWI.out⟩
              case measure => simp [intOf]; omega
    · obtain rfl : i = l.length := by omega
      go_wp2_with fail
      refine (works_any wo).mono ?_
      rintro e w9 ⟨rfl, hf9⟩
      have HF9 := Lib.hid (HFR.out.trans0 hf9)
      clear hf9
      go_wp2_with fail
      go_ret
      exact ⟨rfl, HF9.out⟩
set_option maxHeartbeats 1000000 in
theorem lbeside_any (hc : KCallsAt w cv l) :
    Calls Tryz.prog 22 #[.int .i64 most, cv] w fun e w' => e = .returned (.bool true) ∧ Fr w w' Nil := by
  by_cases hl : l.length ≤ 80
  · exact lbeside_main most cv l w hc hl
  · obtain ⟨ca, cc, rfl, hcc⟩ := hc.shape
    have h1 : (80 : Int) < (l.length : Int) := by omega
    clear hc hl
    go_enter Tryz.func22, Tryz.ntmps22
    go_wp2_with fail
    refine (works_any _).mono ?_
    rintro e w9 ⟨rfl, hf9⟩
    have HF9 := Lib.hid hf9
    clear hf9
    go_wp2_with fail
    go_ret
    exact ⟨rfl, HF9.out⟩
end
end Go.Proofs.YtokeciekncincabGreat
