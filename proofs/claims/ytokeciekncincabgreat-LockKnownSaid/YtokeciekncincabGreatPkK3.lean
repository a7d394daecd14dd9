/-
  The law LockFinds: one waits just if there is somebody that it waits for.
  No condition.
-/
import Derived.Test.YtokeciekncincabGreatPkC41
import Derived.Test.YtokeciekncincabGreatPkC43
import Derived.Test.YtokeciekncincabGreatPkC30
import Derived.Test.YtokeciekncincabGreatPkC6
import Derived.Deep.CutBlock
namespace Go.Proofs.YtokeciekncincabGreat
open Go Go.RowKit Go.Maps

theorem doF_b {kd : Int} {D : LkS} (h : BInv D) (who : Int) (s : Spot) (m : Int) : BInv (doF kd D who s m) := doKd_b h who _ m
theorem holds_cells {w : World} {v : Value} {l : List (Int × Int)} (h : OwnH w v l) : ∃ a cap, v = .slice a l.length cap ∧ ∀ i p, l[i]? = some p → ∃ b, a = some ⟨b, 0, none⟩ ∧ w.cell? ⟨b, i * 2, none⟩ = some (.int .i64 p.1) := by
  obtain ⟨a, cap, rfl⟩ := h.shape
  refine ⟨a, cap, rfl, fun i p hp => ?_⟩
  obtain ⟨b, cap', hv, _, hc⟩ := h.form (by have := (List.getElem?_eq_some_iff.1 hp).1; omega)
  simp only [Value.slice.injEq, true_and] at hv
  exact ⟨b, hv.1, (hc i p hp).1⟩
section
variable (most : Int) (cv : Value) (l : List CallK) (w : World)
set_option maxRecDepth 100000 in
set_option maxHeartbeats 16000000 in
theorem lfinds_main (hc : KCallsAt w cv l) (hl : l.length ≤ 80) :
    Calls Tryz.prog 23 #[.int .i64 most, cv] w fun e w' => e = .returned (.bool true) ∧ Fr w w' Nil := by
  obtain ⟨ca, cc, rfl, hcc⟩ := hc.shape
  have cN := new_T most w
  have hcl80 : ¬ (80 : Int) < (l.length : Int) := by omega
  have HC := Lib.hid hc
  clear hc
  go_enter Tryz.func23, Tryz.ntmps23
  go_wp2_with fail
  refine cN.mono ?_
  rintro e w1 ⟨lb, S1, rfl, hT, hT2, hf1⟩
  have cM := rnew_any most w1
  clear cN
  go_wp2_with fail
  refine cM.mono ?_
  rintro e w2 ⟨mb, S2, rfl, hD, hD2, hf2⟩
  have HU1 := Lib.hid (two_new hT hT2 hD hD2 hf1 hf2)
  have HF1 := Lib.hid (hf1.trans0 hf2)
  have HK1 := Lib.hid (nil_b (max 0 most))
  clear cM hT hT2 hD hD2 hf1 hf2
  go_wp2_with fail
  go_loopw [7] (fun vi wr => ∃ (i : Nat) (D : LkS), vi = .int .i64 (i : Int) ∧ i ≤ l.length ∧ Hid (Two wr lb mb D D i (3 + 4 * i) (Low w.heap.size)) ∧ Hid (BInv D) ∧ Hid (Fr w wr Nil)) (fun vi _ => l.length - (intOf vi).toNat)
  case atStart => exact ⟨0, _, rfl, by omega, HU1.out, HK1.out, HF1.out⟩
  case round =>
    clear HU1 HF1 HK1
    obtain ⟨i, D0, rfl, hi, HU, HK, HFR⟩ := hrel
    obtain ⟨wo, rfl⟩ : ∃ wo : World, wo = wr := ⟨_, rfl⟩
    by_cases hlt : i < l.length
    · have hil : (i : Int) < (l.length : Int) := by omega
      obtain ⟨b, off, cap', hvv, hcl⟩ := HC.out.form (by omega)
      simp only [Value.slice.injEq, true_and] at hvv
      obtain ⟨rfl, rfl⟩ := hvv
      obtain ⟨t, ht⟩ : ∃ t, l[i]? = some t := ⟨_, List.getElem?_eq_getElem hlt⟩
      have hcw : ∀ j u, t.vals[j]? = some u → wo.cell? ⟨b, off + i * 6 + j, none⟩ = some u := fun j u hu => HFR.out.cell (hcl i t ht j u hu) (fun h => h)
      have p0 := hcw 0 _ rfl
      have p1 := hcw 1 _ rfl
      have p2 := hcw 2 _ rfl
      have p3 := hcw 3 _ rfl
      have p4 := hcw 4 _ rfl
      have p5 := hcw 5 _ rfl
      simp only [Nat.add_zero] at p0
      have cD := ldoes_any (kc := t.kind) (m := t.m) HU.out HFR.out.size (by omega) (by omega) t.okw t.oks t.okm.1
      obtain ⟨D, hDD⟩ : ∃ D, doF (t.kind.tmod 10) D0 t.who t.s t.m = D := ⟨_, rfl⟩
      rw [hDD] at cD
      have HKD : Hid (BInv D) := by
        have h9 : BInv D := by rw [← hDD]; exact doF_b HK.out _ _ _
        exact h9
      have HCL := Lib.hid hcl
      clear ht hcw hcl hDD HU HK
      obtain ⟨tkd, who, s, m, okk, okw, oks, okm⟩ := t
      dsimp only at p0 p1 p2 p3 p4 p5 cD
      clear okk okw oks okm
      go_wp2_with fail
      refine cD.mono ?_
      rintro e w3 ⟨rfl, hU, hf⟩
      have HU := Lib.hid hU
      have HOK := Lib.hid hU.ok
      have HF3 : Hid (Fr w w3 Nil) := Lib.hid (low_back HFR.out hf fun k h => h)
      have HCB : Hid (∀ k t, l[k]? = some t → w3.cell? ⟨b, off + k * 6 + 1, none⟩ = some (.int .i64 t.who)) := fun k t ht => HF3.out.cell (HCL.out k t ht 1 _ rfl) (fun h => h)
      have hN9 : i + 1 ≤ 100000 := by omega
      clear cD hU hf p0 p1 p2 p3 p4 p5 HFR HCL
      go_wp2_with fail
      go_loopw [8] (fun vk wr => ∃ (k : Nat), vk = .int .i64 (k : Int) ∧ k ≤ l.length ∧ Hid (Fr w3 wr Nil)) (fun vk _ => l.length - (intOf vk).toNat)
      case atStart => exact ⟨0, by go_num, by omega, Fr.refl _ _⟩
      case round =>
        obtain ⟨k, rfl, hk, HFK⟩ := hrel
        obtain ⟨wk, rfl⟩ : ∃ wo : World, wo = wr := ⟨_, rfl⟩
        by_cases hlk : k < l.length
        · have hkl : (k : Int) < (l.length : Int) := by omega
          obtain ⟨t, ht⟩ : ∃ t, l[k]? = some t := ⟨_, List.getElem?_eq_getElem hlk⟩
          have q1 := HFK.out.cell (HCB.out k t ht) (fun h => h)
          have OKW := Lib.hid t.okw
          have cF := (HU.out.u.fr0 HFK.out).for_ t.who hN9 OKW.out
          have cW : ∀ w', Fr w3 w' Nil → _ := fun w' hf => (HU.out.u.fr0 hf).waits t.who hN9 OKW.out
          have hfo := find_ok HKD.out t.who
          have hwf := waits_wf HOK.out t.who
          have HKW := Lib.hid (for_wf HOK.out t.who)
          obtain ⟨ks, hks⟩ : ∃ x, forL D t.who = x := ⟨_, rfl⟩
          obtain ⟨⟨s, m, bw⟩, hww⟩ : ∃ x, waitsL D t.who = x := ⟨_, rfl⟩
          have hkn : (forL D t.who).length ≤ 100000 := Nat.le_trans (for_len HOK.out t.who) hN9
          rw [hks] at cF hfo HKW hkn
          rw [hww] at cW hfo hwf
          dsimp only at cW hfo hwf
          have HKN := Lib.hid hkn
          have HFO := Lib.hid hfo.2
          have HBW := Lib.hid hfo.1
          have HWF := Lib.hid hwf
          clear ht hks hww hfo hwf hkn
          obtain ⟨_, y, _, _, _, _, _, _⟩ := t
          dsimp only at q1 cF cW
          dsimp only at HFO
          clear OKW
          go_wp2_with fail
          refine cF.mono ?_
          rintro e w4 ⟨fv, rfl, hfi, hfb, hf4⟩
          obtain ⟨fa, fc, rfl⟩ := hfi.shape
          have HF4 := Lib.hid (HFK.out.trans0 hf4)
          have HFI := Lib.hid hfi
          clear cF hf4 hfb hfi q1
          go_wp2_with fail
          refine (cW w4 HF4.out).mono ?_
          rintro e w5 ⟨rfl, hf5⟩
          have HF5 := Lib.hid (HF4.out.trans0 hf5)
          have HFI5 := Lib.hid (HFI.out.fr hf5 fun _ _ h => h)
          obtain ⟨w6, hw6⟩ : ∃ w6, w5.alloc (.cells #[.int .i64 s.1, .bool s.2.1, .int .i64 s.2.2] 30) = w6 := ⟨_, rfl⟩
          have hf6 : Fr w5 w6 Nil := by rw [← hw6]; exact (Fr.refl w5 Nil).alloc _
          have HF6 := Lib.hid (HF5.out.trans0 hf6)
          have HFI6 := Lib.hid (HFI5.out.fr hf6 fun _ _ h => h)
          clear hf5 hf6 HFI HFI5 HF4 HF5
          go_upto_region 16 with fail
          try rw [hw6]
          clear hw6
          go_cut [68] from 64 to 68 (fun v68 wx => v68 = .bool false ∧ w6 = wx)
          case first =>
            have hb := HBW.out
            cases bw with
            | true =>
              have hpos := of_decide_eq_true hb.symm
              clear hb
              have HPOS := Lib.hid hpos
              clear hpos
              go_wp2_with fail
              go_meet
              exact ⟨congrArg Value.bool (by rw [decide_eq_true HPOS.out]; rfl), rfl⟩
            | false =>
              have hpos := of_decide_eq_false hb.symm
              clear hb
              have HPOS := Lib.hid hpos
              clear hpos
              go_wp2_with fail
              go_meet
              exact ⟨congrArg Value.bool (by rw [decide_eq_false HPOS.out]; try rfl), rfl⟩
          case rest =>
          obtain ⟨rfl, rfl⟩ := hcut
          go_wp2_with fail
          refine (cW w6 HF6.out).mono ?_
          rintro e w7 ⟨rfl, hf7⟩
          have hf7' := HF6.out.trans0 hf7
          have HFI7 := Lib.hid (HFI6.out.fr hf7 fun _ _ h => h)
          obtain ⟨w8, hw8⟩ : ∃ w8, w7.alloc (.cells #[.int .i64 s.1, .bool s.2.1, .int .i64 s.2.2] 30) = w8 := ⟨_, rfl⟩
          have hf8 : Fr w7 w8 Nil := by rw [← hw8]; exact (Fr.refl w7 Nil).alloc _
          have hb8 : Bk w8 w7.heap.size 30 [.int .i64 s.1, .bool s.2.1, .int .i64 s.2.2] := by rw [← hw8]; exact Bk.new w7 _ _
          have HF8 := Lib.hid (hf7'.trans0 hf8)
          have HFI8 := Lib.hid (HFI7.out.fr hf8 fun _ _ h => h)
          have HB8 := Lib.hid hb8
          have z0 : w8.cell? ⟨w7.heap.size, 0, none⟩ = some (.int .i64 s.1) := hb8.cell 0
          have z1 : w8.cell? ⟨w7.heap.size, 1, none⟩ = some (.bool s.2.1) := hb8.cell 1
          have z2 : w8.cell? ⟨w7.heap.size, 2, none⟩ = some (.int .i64 s.2.2) := hb8.cell 2
          have cQ := (HU.out.u.fr0 HF8.out).queue s hN9 HWF.out
          clear hf7 hf7' hf8 hb8 HFI6 HFI7 cW
          go_wp2_with fail
          try rw [hw8]
          refine cQ.mono ?_
          rintro e w9 ⟨qv, rfl, hqi, hqb, hf9⟩
          obtain ⟨ql, hql⟩ : ∃ x, prs (queueL D.H D.W s) = x := ⟨_, rfl⟩
          have HTH : Hid (∀ y' ∈ ks, y' ≠ y ∧ (heldL D.H y' s != 0 || (tillL ql y).contains y') = true) := fun y' hy' => by
            have h := HFO.out y' hy'
            unfold thereB at h
            rw [hql] at h
            exact h
          rw [hql] at hqi
          obtain ⟨qa, qc, rfl⟩ := hqi.shape
          have HF9 := Lib.hid (HF8.out.trans0 hf9)
          have HQ := Lib.hid hqi
          have HFI9 := Lib.hid (HFI8.out.fr hf9 fun _ _ h => h)
          have HB9 := Lib.hid (HB8.out.fr hf9 fun h => h)
          have HQL : Hid (ql.length ≤ 100000) := by
            have h9 : ql.length ≤ 100000 := by
              rw [← hql]
              have h1 := queueL_le D.H D.W s
              have h2 := HOK.out.few
              unfold prs
              rw [List.length_map]
              omega
            exact h9
          have HKL : Hid (∀ (n : Nat) (x : Int), ks[n]? = some x → (Lit.int .i64 x).wf = true) := fun n x hx => HKW.out x (List.mem_of_getElem? hx)
          clear cQ hqi hqb hf9 hql HFO HB8 HFI8 z0 z1 z2 hw8
          go_wp2_with fail
          go_loopw [18] (fun vn wr => ∃ (n : Nat), vn = .int .i64 (n : Int) ∧ n ≤ ks.length ∧ Hid (Fr w9 wr Nil)) (fun vn _ => ks.length - (intOf vn).toNat)
          case atStart => exact ⟨0, by go_num, by omega, Fr.refl _ _⟩
          case round =>
            obtain ⟨n, rfl, hn, HFN⟩ := hrel
            obtain ⟨wn, rfl⟩ : ∃ wo : World, wo = wr := ⟨_, rfl⟩
            have hkn9 : ks.length ≤ 100000 := HKN.out
            by_cases hln : n < ks.length
            · have hnl : (n : Int) < (ks.length : Int) := by omega
              obtain ⟨fb, fcap, hfv, _⟩ := HFI9.out.form (by omega)
              simp only [Value.slice.injEq, true_and] at hfv
              obtain ⟨rfl, rfl⟩ := hfv
              obtain ⟨x, hx⟩ : ∃ x, ks[n]? = some x := ⟨_, List.getElem?_eq_getElem hln⟩
              have hfc := HFN.out.cell (HFI9.out.cell rfl n hln) (fun h => h)
              rw [List.getD_eq_getElem?_getD, hx] at hfc
              simp only [Option.getD_some] at hfc
              have hbn := HB9.out.fr HFN.out (fun h => h)
              have k1 : ∀ w', KeptN wn w' → w'.cell? ⟨fb, n, none⟩ = some (.int .i64 x) := KeptN.cell (by simpa using hfc)
              have k2 : ∀ w', KeptN wn w' → w'.cell? ⟨w7.heap.size, 0, none⟩ = some (.int .i64 s.1) := KeptN.cell (hbn.cell 0)
              have k3 : ∀ w', KeptN wn w' → w'.cell? ⟨w7.heap.size, 1, none⟩ = some (.bool s.2.1) := KeptN.cell (hbn.cell 1)
              have k4 : ∀ w', KeptN wn w' → w'.cell? ⟨w7.heap.size, 2, none⟩ = some (.int .i64 s.2.2) := KeptN.cell (hbn.cell 2)
              have HXT := Lib.hid (HTH.out x (List.mem_of_getElem? hx))
              have cH : ∀ w', Fr w9 w' Nil → _ := fun w' hf => (HU.out.u.fr0 (HF9.out.trans0 hf)).held x s (HKL.out n x hx) HWF.out
              generalize heldL D.H x s = hm at *
              have HFCX : Hid (∀ w', Fr w9 w' Nil → w'.cell? ⟨fb, n, none⟩ = some (.int .i64 x)) := fun w' hf => hf.cell (by have h1 := HFI9.out.cell rfl n hln; rw [List.getD_eq_getElem?_getD, hx] at h1; simpa using h1) (fun h => h)
              clear hx hbn hfc
              obtain ⟨s1, s2, s3⟩ := s
              dsimp only at k2 k3 k4 cH
              go_wp2_with fail
              refine wp_region_sink 8 (KeptN wn) (by kernel_rfl) ?_
              have hSa : KeptN wn wn.drew := KeptN.start wn
              refine tk 0 hSa ?_
              refine tk 1 hSa ?_
              refine tk 2 hSa ?_
              refine tk 3 hSa ?_
              try simp only [Act.put, sA, sB, sC]
              refine tk 4 hSa ?_ (hy := by intro _ w; have ck1 := k1 _ w; go_simp <;> with_reducible rfl)
              try simp only [Act.put, sA, sB, sC]
              refine tk 5 hSa ?_ (hy := by intro _ w; have ck2 := k2 _ w; have ck3 := k3 _ w; have ck4 := k4 _ w; go_simp <;> with_reducible rfl)
              try simp only [Act.put, sA, sB, sC]
              refine on1 6 fun K hK => ?_
              go_simp
              refine (cH _ (HFN.out.trans0 hSa)).mono ?_
              rintro e w10 ⟨rfl, hf10⟩
              have hSb : KeptN wn w10 := KeptN.next hSa hf10
              refine hK.out _ _ hSb ?_
              clear hK K
              try simp only [Act.put, sA, sB, sC]
              refine tk 7 hSb ?_
              try simp only [Act.put, sA, sB, sC]
              refine wpAnyS_last (i := 8) rfl (by kernel_rfl) (by decide) (by kernel_rfl) (by rfl) fun K hK => ?_
              go_simp
              refine hK.out _ _ ?_
              clear hK K
              have HF10 := Lib.hid (HFN.out.trans0 hSb)
              obtain ⟨bh, hbh⟩ : ∃ bh, (hm != 0) = bh := ⟨_, rfl⟩
              have HXB : Hid (x ≠ y ∧ (bh || (tillL ql y).contains x) = true) := by
                have h9 : x ≠ y ∧ (bh || (tillL ql y).contains x) = true := by rw [← hbh]; exact HXT.out
                exact h9
              try rw [hbh]
              clear hSa hSb hf10 k1 k2 k3 k4 cH HXT
              go_wp2_with fail
              go_loopw [19, 20] (fun vt vj wr => ∃ (j : Nat) (th : Bool), vj = .int .i64 (j : Int) ∧ vt = .bool th ∧ j ≤ ql.length ∧ Hid (th = (bh || ((ql.take j).map Prod.fst).contains x)) ∧ Hid (∀ p ∈ ql.take j, p.1 ≠ y) ∧ Hid (Fr w9 wr Nil)) (fun _ vj _ => ql.length - (intOf vj).toNat)
              case atStart => exact ⟨0, bh, by go_num, by first | rfl | (rw [hbh]), by omega, by show _ = _; simp, (fun p hp => by simp at hp), HF10.out⟩
              case round =>
                obtain ⟨j, th, rfl, rfl, hj, HTJ, HNJ, HFJ⟩ := hrel
                obtain ⟨wj, rfl⟩ : ∃ wo : World, wo = wr := ⟨_, rfl⟩
                have hqx := HQL.out
                have hxc := HFCX.out wj HFJ.out
                have hxy : (x == y) = false := by rw [beq_eq_false_iff_ne]; exact HXB.out.1
                by_cases hlj : j < ql.length
                · have hjl : (j : Int) < (ql.length : Int) := by omega
                  obtain ⟨qb, qcap, hqv, _, hqc⟩ := HQ.out.form (by omega)
                  simp only [Value.slice.injEq, true_and] at hqv
                  obtain ⟨rfl, rfl⟩ := hqv
                  obtain ⟨p, hp⟩ : ∃ p, ql[j]? = some p := ⟨_, List.getElem?_eq_getElem hlj⟩
                  have hq0 := HFJ.out.cell (hqc j p hp).1 (fun h => h)
                  have HPJ := Lib.hid hp
                  have HTN : Hid ((bh || ((ql.take (j + 1)).map Prod.fst).contains x) = ((bh || ((ql.take j).map Prod.fst).contains x) || p.1 == x)) := there_take x bh hp
                  clear hqc hp
                  obtain ⟨pw, pm⟩ := p
                  dsimp only at hq0
                  cases hpy : (pw == y) with
                  | true =>
                    have hne : (pw != y) = false := by simp [bne, hpy]
                    have HTT : Hid (th = true) := by
                      have h9 : th = true := by
                        rw [HTJ.out, ← tillL_stop HPJ.out HNJ.out (eq_of_beq hpy)]
                        exact HXB.out.2
                      exact h9
                    have hth := HTT.out
                    subst hth
                    go_wp2_with fail
                    go_roundw
                    case rel => exact ⟨n + 1, by go_num, by omega, HFJ.out⟩
                    case measure => simp [intOf]; omega
                  | false =>
                    have hne : (pw != y) = true := by simp [bne, hpy]
                    have HNJ2 : Hid (∀ p ∈ ql.take (j + 1), p.1 ≠ y) := fun p hp => by
                      rw [List.take_add_one, HPJ.out] at hp
                      rcases List.mem_append.1 hp with hp | hp
                      · exact HNJ.out p hp
                      · simp only [Option.toList_some, List.mem_singleton] at hp
                        subst hp
                        exact fun h => by rw [beq_eq_false_iff_ne] at hpy; exact hpy h
                    have k1 : ∀ w', KeptN wj w' → w'.cell? ⟨qb, j * 2, none⟩ = some (.int .i64 pw) := KeptN.cell hq0
                    have k2 : ∀ w', KeptN wj w' → w'.cell? ⟨fb, n, none⟩ = some (.int .i64 x) := KeptN.cell hxc
                    cases th with
                    | true =>
                      have HT2 : Hid (true = (bh || ((ql.take (j + 1)).map Prod.fst).contains x)) := by
                        show _ = _
                        rw [HTN.out, ← HTJ.out]; rfl
                      go_wp2_with fail
                      refine wp_region_sink 13 (KeptN wj) (by kernel_rfl) ?_
                      have hSa : KeptN wj wj.drew := KeptN.start wj
                      refine tk 0 hSa ?_
                      refine tk 1 hSa ?_
                      try simp only [Act.put, sA, sB, sC]
                      refine wpAnyS_skip (i := 2) rfl (by kernel_rfl) (fun _ _ _ h => h) (by rfl) hSa ?_
                      try simp only [Act.put, sA, sB, sC]
                      refine wpAnyS_skip (i := 3) rfl (by kernel_rfl) (fun _ _ _ h => h) (by rfl) hSa ?_
                      try simp only [Act.put, sA, sB, sC]
                      refine wpAnyS_skip (i := 4) rfl (by kernel_rfl) (fun _ _ _ h => h) (by rfl) hSa ?_
                      try simp only [Act.put, sA, sB, sC]
                      refine wpAnyS_skip (i := 5) rfl (by kernel_rfl) (fun _ _ _ h => h) (by rfl) hSa ?_
                      try simp only [Act.put, sA, sB, sC]
                      refine wpAnyS_skip (i := 6) rfl (by kernel_rfl) (fun _ _ _ h => h) (by rfl) hSa ?_
                      try simp only [Act.put, sA, sB, sC]
                      refine wpAnyS_skip (i := 7) rfl (by kernel_rfl) (fun _ _ _ h => h) (by rfl) hSa ?_
                      try simp only [Act.put, sA, sB, sC]
                      refine wpAnyS_skip (i := 8) rfl (by kernel_rfl) (fun _ _ _ h => h) (by rfl) hSa ?_
                      try simp only [Act.put, sA, sB, sC]
                      refine wpAnyS_skip (i := 9) rfl (by kernel_rfl) (fun _ _ _ h => h) (by rfl) hSa ?_
                      try simp only [Act.put, sA, sB, sC]
                      refine wpAnyS_skip (i := 10) rfl (by kernel_rfl) (fun _ _ _ h => h) (by rfl) hSa ?_
                      try simp only [Act.put, sA, sB, sC]
                      refine wpAnyS_skip (i := 11) rfl (by kernel_rfl) (fun _ _ _ h => h) (by rfl) hSa ?_
                      try simp only [Act.put, sA, sB, sC]
                      refine tk 12 hSa ?_
                      try simp only [Act.put, sA, sB, sC]
                      refine wpAnyS_last (i := 13) rfl (by kernel_rfl) (by decide) (by kernel_rfl) (by rfl) fun K hK => ?_
                      go_simp
                      refine hK.out _ _ ?_
                      clear hK K
                      have HFJ2 := Lib.hid (HFJ.out.trans0 hSa)
                      clear hSa k1 k2
                      go_wp2_with fail
                      go_roundw
                      case rel => exact ⟨j + 1, true, by go_num, rfl, by omega, HT2.out, HNJ2.out, HFJ2.out⟩
                      case measure => simp [intOf]; omega
                    | false =>
                      have HT2 : Hid ((pw == x) = (bh || ((ql.take (j + 1)).map Prod.fst).contains x)) := by
                        show _ = _
                        rw [HTN.out, ← HTJ.out]; rfl
                      go_wp2_with fail
                      refine wp_region_sink 13 (KeptN wj) (by kernel_rfl) ?_
                      have hSa : KeptN wj wj.drew := KeptN.start wj
                      refine tk 0 hSa ?_
                      refine tk 1 hSa ?_
                      refine tk 2 hSa ?_
                      refine tk 3 hSa ?_
                      refine tk 4 hSa ?_
                      refine tk 5 hSa ?_
                      try simp only [Act.put, sA, sB, sC]
                      refine tk 6 hSa ?_ (hy := by intro _ w; have ck1 := k1 _ w; go_simp <;> with_reducible rfl)
                      try simp only [Act.put, sA, sB, sC]
                      refine tk 7 hSa ?_
                      refine tk 8 hSa ?_
                      refine tk 9 hSa ?_
                      try simp only [Act.put, sA, sB, sC]
                      refine tk 10 hSa ?_ (hy := by intro _ w; have ck2 := k2 _ w; go_simp <;> with_reducible rfl)
                      try simp only [Act.put, sA, sB, sC]
                      refine tk 11 hSa ?_
                      refine tk 12 hSa ?_
                      try simp only [Act.put, sA, sB, sC]
                      refine wpAnyS_last (i := 13) rfl (by kernel_rfl) (by decide) (by kernel_rfl) (by rfl) fun K hK => ?_
                      go_simp
                      refine hK.out _ _ ?_
                      clear hK K
                      have HFJ2 := Lib.hid (HFJ.out.trans0 hSa)
                      clear hSa k1 k2
                      go_wp2_with fail
                      go_roundw
                      case rel => exact ⟨j + 1, (pw == x), by go_num, by first | rfl | simp [Bool.beq_eq_decide_eq], by omega, HT2.out, HNJ2.out, HFJ2.out⟩
                      case measure => simp [intOf]; omega
                · obtain rfl : j = ql.length := by omega
                  have HTT : Hid (th = true) := by
                    have h9 : th = true := by
                      have h1 := HTJ.out
                      have h2 := HNJ.out
                      rw [List.take_length] at h1 h2
                      rw [h1, ← tillL_all h2]
                      exact HXB.out.2
                    exact h9
                  have hth := HTT.out
                  subst hth
                  go_wp2_with fail
                  go_roundw
                  case rel => exact ⟨n + 1, by go_num, by omega, HFJ.out⟩
                  case measure => simp [intOf]; omega
            · obtain rfl : n = ks.length := by omega
              have HFK2 := Lib.hid (HF9.out.trans0 HFN.out)
              go_wp2_with fail
              go_roundw
              case rel => exact ⟨k + 1, by go_num, by omega, HFK2.out⟩
              case measure => simp [intOf]; omega
        · obtain rfl : k = l.length := by omega
          have HF9 := Lib.hid (HF3.out.trans0 HFK.out)
          have HU9 := Lib.hid (HU.out.fr0 HFK.out)
          go_wp2_with fail
          go_roundw
          case rel => exact ⟨i + 1, D, by go_num, by omega, HU9.out, HKD, HF9⟩
          case measure => simp [intOf]; omega
    · obtain rfl : i = l.length := by omega
      have cW := works_any wo
      go_wp2_with fail
      refine cW.mono ?_
      rintro e w9 ⟨rfl, hf9⟩
      have HF9 := Lib.hid (HFR.out.trans0 hf9)
      clear cW hf9
      go_wp2_with fail
      go_ret
      exact ⟨rfl, HF9.out⟩
theorem lfinds_any (hc : KCallsAt w cv l) :
    Calls Tryz.prog 23 #[.int .i64 most, cv] w fun e w' => e = .returned (.bool true) ∧ Fr w w' Nil := by
  by_cases hl : l.length ≤ 80
  · exact lfinds_main most cv l w hc hl
  · obtain ⟨ca, cc, rfl, hcc⟩ := hc.shape
    have hb : (80 : Int) < (l.length : Int) := by omega
    have cW := works_any w
    go_enter Tryz.func23, Tryz.ntmps23
    go_wp2_with fail
    refine cW.mono ?_
    rintro e w9 ⟨rfl, hf9⟩
    have HF9 := Lib.hid hf9
    clear cW hf9
    go_wp2_with fail
    go_ret
    exact ⟨rfl, HF9.out⟩
end
end Go.Proofs.YtokeciekncincabGreat
