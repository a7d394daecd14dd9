/-
  Walk of RunBack: it answers true.
  No condition.
-/
import Derived.Test.YtgpekgnhbccnoaaGreatPkZb45
import Derived.Test.YtgpekgnhbccnoaaGreatPkZb46
namespace Go.Proofs.YtgpekgnhbccnoaaGreat
open Go Go.RowKit
attribute [local go_sem ↓] Go.wp_at_zero Go.wp_at_succ

section
variable (lv tv av : Value) (L : List InstrD) (TB args : List Int) (nv : Int) (mm sn : Nat) (w : World)
set_option maxRecDepth 100000 in
set_option maxHeartbeats 16000000 in
theorem rback_law (h : CodeAt w lv L) (hcap : CapOk lv) (ht : IntsAt w tv TB) (ha : IntsAt w av args) (hmm : mm < 256) (hsn : sn < 256) :
    Calls Tryz.prog 4 #[lv, tv, .int .i64 nv, av, .int .u8 mm, .int .u8 sn] w fun e w' => e = .returned (.bool true) ∧ Fr w w' Nil := by
  obtain ⟨l0, lc, rfl⟩ := h.shape
  obtain ⟨t0, tc, rfl⟩ := ht.shape
  obtain ⟨a0, ac, rfl⟩ := ha.shape
  have H := Lib.hid h
  have HT := Lib.hid ht
  have HA := Lib.hid ha
  have HCAP := Lib.hid hcap
  clear h ht ha hcap
  go_enter Tryz.func4, Tryz.ntmps4
  go_wp2_with fail
  refine (few_any _ _ _ L TB args nv _ H.out HT.out HA.out).mono ?_
  rintro e w1 ⟨b, rfl, hfew, rfl⟩
  cases b
  · clear hfew
    go_wp2_with fail
    refine (works_any _).mono ?_
    rintro e w9 ⟨rfl, hf⟩
    have HF := Lib.hid hf
    clear hf
    go_wp2_with fail
    go_ret
    exact ⟨rfl, HF.out⟩
  have HFW := Lib.hid (hfew rfl)
  have hTB20 := (hfew rfl).2.1
  have hnv40 := (hfew rfl).2.2.1
  clear hfew
  go_wp2_with fail
  refine (rnew_st _ _ _ TB args nv L w H.out HCAP.out HT.out HA.out HFW.out.2.2.2.2 (by omega) (by omega)).mono ?_
  rintro e w1 h1
  rcases h1 with ⟨hright, hargs, qa, Ca, rfl, hsta, hqa, e1, e2, e3, e4, e5, hf1⟩ | ⟨hno, rfl, hf1⟩
  rotate_left
  · have HL1 := Lib.hid (Lies.nil hf1)
    clear hno hf1
    go_wp2_with fail
    refine (filled_any HL1.out _ TB HT.out (by omega) mm (mm % 5) (by omega) hmm).mono ?_
    rintro e w3 h3
    rcases h3 with ⟨_, rb, qq, rfl, h3⟩ | ⟨_, rfl, h3⟩
    all_goals
      have HF3 := Lib.hid h3.fr
      clear h3 HL1
      go_wp2_with fail
      refine (works_any _).mono ?_
      rintro e w9 ⟨rfl, hf⟩
      have HF := Lib.hid (HF3.out.trans0 hf)
      clear hf
      go_wp2_with fail
      go_ret
      exact ⟨rfl, HF.out⟩
  obtain ⟨sa, la, ta, va, oa0, L, TB, at', vars, out⟩ := qa
  simp only at e1 e2 e3 e4 e5
  subst e1 e2 e3 e4 e5
  have hnv0 := hright.pos
  have HRT := Lib.hid hright
  have HAR := Lib.hid hargs
  have HL1 := Lib.hid (new_lies (Lies.nil (Fr.refl w Nil)) hsta hqa hf1)
  clear hright hargs hsta hqa hf1
  go_wp2_with fail
  refine (filled_any HL1.out _ TB HT.out (by omega) mm (mm % 5) (by omega) hmm).mono ?_
  rintro e w3 h3
  rcases h3 with ⟨hcols, rb, qq, rfl, h3⟩ | ⟨_, rfl, h3⟩
  rotate_left
  · have HF3 := Lib.hid h3.fr
    clear h3 HL1
    go_wp2_with fail
    refine (works_any _).mono ?_
    rintro e w9 ⟨rfl, hf⟩
    have HF := Lib.hid (HF3.out.trans0 hf)
    clear hf
    go_wp2_with fail
    go_ret
    exact ⟨rfl, HF.out⟩
  have HFO := Lib.hid (filled_ok (m := mm % 5) hcols (by omega))
  have HIV := Lib.hid (mach0_inv HRT.out HAR.out HFO.out)
  have HCO := Lib.hid HRT.out.ok
  have hnvn : nv.toNat ≤ 100000 := by omega
  generalize filledM TB (mm % 5) = M0 at *
  have HL3 : Hid (Lies w w3 [stT (stOf sa la ta va oa0 L TB (mach0 nv.toNat args M0)), rowsT rb M0, refM qq M0]) := Lib.hid h3
  clear h3 HL1 hcols
  go_wp2_with fail
  refine (st_new HL3.out 1000).mono ?_
  rintro e w4 ⟨ua, rfl, h⟩
  have HL4 := Lib.hid h
  clear h HL3
  go_wp2_with fail
  refine (st_copy HL4.out 1 rfl HFO.out.good).mono ?_
  rintro e w5 ⟨wb, rfl, h⟩
  obtain ⟨s0, hs0⟩ : ∃ s0, s0 = mach0 nv.toNat args M0 := ⟨_, rfl⟩
  have HL6 : Hid (Lies w w5 [stT (stOf sa la ta va oa0 L TB s0), rowsT rb s0.M, refM qq M0, logT ua 1000 s0.lg, rowsT wb M0]) := by
    subst hs0
    exact Lib.hid h
  have HB0 : Hid (BInv M0 s0.M s0.lg ∧ s0.lg.length = 0) := by
    subst hs0
    exact Lib.hid ⟨BInv.start M0, rfl⟩
  rw [← hs0] at HIV
  clear h HL4 hs0
  obtain ⟨n0, hn0⟩ : ∃ n0, n0 = nv.toNat := ⟨_, rfl⟩
  rw [← hn0] at HIV HCO hnvn
  clear hn0
  go_wp2_with fail
  go_loopw [20, 21] (fun vm vi wr => ∃ (i m : Nat) (s : MachD) (oa : Value), i ≤ sn ∧ vi = .int .i64 i ∧ vm = .int .i64 m ∧ m = s.lg.length ∧ SInv TB n0 L.length (256 + i) i s ∧ BInv M0 s.M s.lg ∧ Lies w wr [stT (stOf sa la ta va oa L TB s), rowsT rb s.M, refM qq M0, logT ua 1000 s.lg, rowsT wb M0]) (fun _ vi _ => sn - (intOf vi).toNat)
  case atStart => exact ⟨0, 0, s0, oa0, by omega, rfl, rfl, HB0.out.2.symm, HIV.out, HB0.out.1, HL6.out⟩
  case round =>
    clear HL6 HIV HB0
    obtain ⟨i, m, s, oa, hi, rfl, rfl, hm, hinv, hbi, h⟩ := hrel
    have HS := Lib.hid hinv
    have HBI := Lib.hid hbi
    have HM := Lib.hid hm
    have HL := Lib.hid h
    obtain ⟨wo, rfl⟩ : ∃ wo : World, wo = wr := ⟨_, rfl⟩
    have hm256 : m ≤ 256 := by have := hinv.lg; omega
    clear hinv h hm hbi
    by_cases hlt : i < sn
    · have hii : (i : Int) < (sn : Int) := by omega
      have HN := Lib.hid (at_get HS.out.at')
      have HFa := Lib.hid (stOf_F (sb := sa) (lv := la) (tv := ta) (vv := va) (ov := oa) HS.out HCO.out HFW.out.2.2.2.2 hnvn (by omega))
      obtain ⟨x, hx⟩ : ∃ x, x = nextP (L.getD s.at' default) s.vars := ⟨_, rfl⟩
      have HX := Lib.hid hx
      have hk6 := nextP_kinds (n := L.getD s.at' default) s.vars
      rw [← hx] at hk6
      have HI := Lib.hid (HCO.out.all _ _ HN.out)
      have hwk : x.wrote = true → x.kind = 1 := fun hw => by rw [hx] at hw ⊢; exact (nextP_kind s.vars HI.out.lo HI.out.hi).2 (by have := (nextP_wrote s.vars).1 hw; omega)
      obtain ⟨s2, hs2⟩ : ∃ s2, s2 = (stepM L 1000 1 s).2.2 := ⟨_, rfl⟩
      have HR := Lib.hid (step_room HS.out HCO.out (most := 1000) (by omega) 1)
      rw [← HX.out] at HR
      have HS2 := Lib.hid (step_inv HS.out HCO.out (by omega) 1000 1)
      rw [← hs2] at HS2
      have HSE := Lib.hid hs2
      have HLO := Lib.hid (And.intro HS.out.lg HS.out.out)
      have HB2 := Lib.hid (step_binv HS.out HCO.out (by omega) (most := 1000) (by omega) HBI.out)
      rw [← hs2, ← HX.out] at HB2
      clear hx
      obtain ⟨xk, xt, xr, xy, xm, xto, xwr⟩ := x
      simp only at hk6 hwk HB2
      go_wp2_with fail
      refine (step_any HL.out 0 1 3 rfl rfl rfl (by decide) (by decide) (by decide) n0 HFa.out _ HN.out HS.out.good HS.out.cols 1 (by decide) (by have := HLO.out.1; omega) (by have := HLO.out.2; show s.out.length ≤ _; omega)).mono ?_
      rintro e u3 ⟨he, oe, h⟩
      have he2 := he.trans (step_val HR.out.1 HR.out.2)
      simp only [WantD.val] at he2
      subst he2
      have HL4 : Hid (Lies w u3 [stT (stOf sa la ta va oe L TB s2), rowsT rb s2.M, refM qq M0, logT ua 1000 s2.lg, rowsT wb M0]) := by subst hs2; exact Lib.hid h
      clear h HL he hs2
      have HL5 : Hid (Lies w (u3.alloc (.cells #[.int .u8 xk, .int .i64 xt, .bool xr, .int .i64 xy, .int .u8 xm, .bool xto, .bool xwr] 50)) [stT (stOf sa la ta va oe L TB s2), rowsT rb s2.M, refM qq M0, logT ua 1000 s2.lg, rowsT wb M0, bkT u3.heap.size 50 (#[.int .u8 xk, .int .i64 xt, .bool xr, .int .i64 xy, .int .u8 xm, .bool xto, .bool xwr] : Array Value).toList]) := HL4.out.newBk 50 #[.int .u8 xk, .int .i64 xt, .bool xr, .int .i64 xy, .int .u8 xm, .bool xto, .bool xwr]
      clear HL4
      have a0 := (HL5.out.bk 5 rfl).cell 0
      have a1 := (HL5.out.bk 5 rfl).cell 1
      have a2 := (HL5.out.bk 5 rfl).cell 2
      have a3 := (HL5.out.bk 5 rfl).cell 3
      have a4 := (HL5.out.bk 5 rfl).cell 4
      have a5 := (HL5.out.bk 5 rfl).cell 5
      have a6 := (HL5.out.bk 5 rfl).cell 6
      simp only [List.getElem?_cons_zero, List.getElem?_cons_succ] at a0 a1 a2 a3 a4 a5 a6
      cases hwr : xwr
      · subst hwr
        have HBX := Lib.hid HB2.out.1
        have HMX : Hid (m = s2.lg.length) := Lib.hid (by have h9 := HB2.out.2; simp only [Bool.false_eq_true, if_false, Nat.add_zero] at h9; rw [h9]; exact HM.out)
        clear hwk
        rcases hk6 with rfl | hk5
        · go_wp2_with fail
          clear a0 a1 a2 a3 a4 a5 a6
          refine (st_ulen HL5.out 3 rfl 1 (by decide)).mono ?_
          rintro e u7 ⟨he, h⟩
          rw [HBX.out.len, ← HMX.out] at he
          subst he
          have HLc := Lib.hid h
          clear h HL5
          go_wp2_with fail
          refine (st_clean (N := 256 + i + 1) HLc.out 3 1 rfl rfl HS2.out.good HS2.out.few (by have := HMX.out; omega) HBX.out.wf).mono ?_
          rintro e u8 ⟨db, rfl, h⟩
          rw [HBX.out.clean] at h
          have HLd := Lib.hid h
          clear h HLc
          go_wp2_with fail
          refine (st_same HLd.out 6 4 rfl rfl HFO.out.good HFO.out.good).mono ?_
          rintro e u9 ⟨he, h⟩
          rw [decide_eq_true rfl] at he
          subst he
          have HLe := Lib.hid h
          clear h HLd
          go_wp2_with fail
          go_roundw
          case rel => exact ⟨i + 1, m, s2, oe, by omega, by go_num, rfl, HMX.out, HS2.out, HBX.out, HLe.out.take 5⟩
          case measure => simp [intOf]; omega
        · obtain rfl : s2 = s := by rw [HSE.out, step_want (by rw [← HX.out]; show xk ≠ 1; omega)]
          clear HSE HR
          rcases (show (xk = 2 ∨ xk = 3 ∨ xk = 4) ∨ xk = 5 ∨ xk = 6 by omega) with hk | hk
          · have HG : Hid (goes (nextP (L.getD s2.at' default) s2.vars).kind = true) := Lib.hid (by rw [← HX.out]; rcases hk with rfl | rfl | rfl <;> rfl)
            have HS3 := Lib.hid (HS.out.goes HCO.out (by rw [← HX.out]; exact hk))
            have hn1 : (xk != 1) = true := by rw [bne_iff_ne]; omega
            clear hk hk5
            go_wp2_with fail
            clear a0 a1 a2 a3 a4 a5 a6
            refine (go_yes HL5.out 0 rfl (stOf_F HS.out HCO.out HFW.out.2.2.2.2 hnvn (by omega)) HN.out HG.out).mono ?_
            rintro e u4 ⟨rfl, h⟩
            have HL6 := Lib.hid h
            clear h HL5
            go_wp2_with fail
            refine (st_ulen HL6.out 3 rfl 1 (by decide)).mono ?_
            rintro e u7 ⟨he, h⟩
            rw [HBX.out.len, ← HMX.out] at he
            subst he
            have HLc := Lib.hid h
            clear h HL6
            go_wp2_with fail
            refine (st_clean (N := 256 + i + 1) HLc.out 3 1 rfl rfl HS2.out.good HS2.out.few (by have := HMX.out; omega) HBX.out.wf).mono ?_
            rintro e u8 ⟨db, rfl, h⟩
            rw [HBX.out.clean] at h
            have HLd := Lib.hid h
            clear h HLc
            go_wp2_with fail
            refine (st_same HLd.out 6 4 rfl rfl HFO.out.good HFO.out.good).mono ?_
            rintro e u9 ⟨he, h⟩
            rw [decide_eq_true rfl] at he
            subst he
            have HLe := Lib.hid h
            clear h HLd
            go_wp2_with fail
            go_roundw
            case rel => exact ⟨i + 1, m, { s2 with at' := s2.at' + 1 }, oe, by omega, by go_num, rfl, HMX.out, HS3.out.mono (by omega) (by omega), HBX.out, HLe.out.take 5⟩
            case measure => simp [intOf]; omega
          · have HG : Hid (goes (nextP (L.getD s2.at' default) s2.vars).kind = false) := Lib.hid (by rw [← HX.out]; rcases hk with rfl | rfl <;> rfl)
            have hn1 : (xk != 1) = true := by rw [bne_iff_ne]; omega
            clear hk hk5
            go_wp2_with fail
            clear a0 a1 a2 a3 a4 a5 a6
            refine (go_no HL5.out 0 rfl (stOf_F HS.out HCO.out HFW.out.2.2.2.2 hnvn (by omega)) HN.out HG.out).mono ?_
            rintro e u4 ⟨rfl, h⟩
            have HL6 := Lib.hid h
            clear h HL5
            obtain ⟨s, rfl⟩ : ∃ s : MachD, s = s2 := ⟨_, rfl⟩
            go_wp2_with fail
            go_loopw [24] (fun vj wr => ∃ (j : Nat) (M2 : List MTab) (L2 : List (Int × Ent)), j + L2.length = m ∧ vj = .int .i64 j ∧ BInv M0 M2 L2 ∧ Good M2 ∧ Few (1000 + j) M2 ∧ Lies w wr [stT (stOf sa la ta va oe L TB s), rowsT rb M2, refM qq M0, logT ua 1000 L2, rowsT wb M0]) (fun vj _ => m - (intOf vj).toNat)
            case atStart => exact ⟨0, s.M, s.lg, by have := HM.out; omega, rfl, HBI.out, HS.out.good, (fun T hT => by have := HS.out.few T hT; omega), (HL6.out).take 5⟩
            case round =>
              obtain ⟨j, M2, L2, hj, rfl, hb2, hg2, hf2, h⟩ := hrel
              have HB2 := Lib.hid hb2
              have HG2 := Lib.hid hg2
              have HF2 := Lib.hid hf2
              have HLt := Lib.hid h
              have HJ := Lib.hid hj
              obtain ⟨wq, rfl⟩ : ∃ wq : World, wq = wr := ⟨_, rfl⟩
              clear hb2 hg2 hf2 h
              by_cases hltj : 0 < L2.length
              · have hjj : (j : Int) < (m : Int) := by omega
                obtain ⟨hc1, hc2, hc3⟩ := HB2.out.back hltj
                have HC1 := Lib.hid hc1
                have HC2 := Lib.hid hc2
                have HGB := Lib.hid (bgood_back HG2.out HF2.out (by omega) L2)
                clear hc1 hc2
                go_wp2_with fail
                refine (st_back HLt.out 3 1 rfl rfl (by decide) 1 HG2.out (by decide) (by omega)).mono ?_
                rintro e wz ⟨he, h⟩
                rw [hc3] at he
                simp only [Bool.not_false] at he
                subst he
                have HLz := Lib.hid h
                clear h HLt hc3
                go_wp2_with fail
                go_roundw
                case rel => exact ⟨j + 1, _, _, by have := HC2.out; omega, by go_num, HC1.out, HGB.out.1, HGB.out.2, HLz.out⟩
                case measure => simp [intOf]; omega
              · obtain ⟨rfl, rfl⟩ := HB2.out.done (by omega)
                have hjj : ¬ (j : Int) < (m : Int) := by simp at hj; omega
                clear hltj
                go_wp2_with fail
                refine (st_same HLt.out 1 4 rfl rfl HG2.out HG2.out).mono ?_
                rintro e wz ⟨he, h⟩
                rw [decide_eq_true rfl] at he
                subst he
                have HLz := Lib.hid h
                clear h HLt
                go_wp2_with fail
                refine (st_back HLz.out 3 1 rfl rfl (by decide) 1 HG2.out (by decide) (by simp)).mono ?_
                rintro e wy ⟨he, h⟩
                rw [show (!(ofL [] 1 : List Ent).isEmpty) = false from rfl] at he
                subst he
                have HLy := Lib.hid h
                clear h HLz
                go_wp2_with fail
                refine (works_any _).mono ?_
                rintro e w9 ⟨rfl, hf⟩
                have HF := Lib.hid (HLy.out.fr.trans0 hf)
                clear hf
                go_wp2_with fail
                go_ret
                exact ⟨rfl, HF.out⟩
      · subst hwr
        obtain rfl : xk = 1 := hwk rfl
        clear hwk hk6
        have HBX := Lib.hid HB2.out.1
        obtain ⟨m2, hm2⟩ : ∃ m2, m2 = m + 1 := ⟨_, rfl⟩
        have HM2 := Lib.hid hm2
        have HMX : Hid (m2 = s2.lg.length) := Lib.hid (by have h9 := HB2.out.2; simp only [if_true] at h9; rw [h9, hm2, HM.out])
        have hm257 : m2 ≤ 257 := by omega
        have hmi : (m2 : Int) = (m : Int) + 1 := by omega
        have HMI := Lib.hid hmi
        clear hmi hm2
        go_wp2_with fail
        clear a0 a1 a2 a3 a4 a5 a6
        rw [← HMI.out]
        refine (st_ulen HL5.out 3 rfl 1 (by decide)).mono ?_
        rintro e u7 ⟨he, h⟩
        rw [HBX.out.len, ← HMX.out] at he
        subst he
        have HLc := Lib.hid h
        clear h HL5
        go_wp2_with fail
        refine (st_clean (N := 256 + i + 1) HLc.out 3 1 rfl rfl HS2.out.good HS2.out.few (by have := HMX.out; omega) HBX.out.wf).mono ?_
        rintro e u8 ⟨db, rfl, h⟩
        rw [HBX.out.clean] at h
        have HLd := Lib.hid h
        clear h HLc
        go_wp2_with fail
        refine (st_same HLd.out 6 4 rfl rfl HFO.out.good HFO.out.good).mono ?_
        rintro e u9 ⟨he, h⟩
        rw [decide_eq_true rfl] at he
        subst he
        have HLe := Lib.hid h
        clear h HLd
        go_wp2_with fail
        go_roundw
        case rel => exact ⟨i + 1, m2, s2, oe, by omega, by go_num, rfl, HMX.out, HS2.out, HBX.out, HLe.out.take 5⟩
        case measure => simp [intOf]; omega
    · obtain rfl : i = sn := by omega
      obtain ⟨oe, rfl⟩ : ∃ oe : Value, oe = oa := ⟨_, rfl⟩
      go_wp2_with fail
      go_loopw [24] (fun vj wr => ∃ (j : Nat) (M2 : List MTab) (L2 : List (Int × Ent)), j + L2.length = m ∧ vj = .int .i64 j ∧ BInv M0 M2 L2 ∧ Good M2 ∧ Few (1000 + j) M2 ∧ Lies w wr [stT (stOf sa la ta va oe L TB s), rowsT rb M2, refM qq M0, logT ua 1000 L2, rowsT wb M0]) (fun vj _ => m - (intOf vj).toNat)
      case atStart => exact ⟨0, s.M, s.lg, by have := HM.out; omega, rfl, HBI.out, HS.out.good, (fun T hT => by have := HS.out.few T hT; omega), (HL.out).take 5⟩
      case round =>
        obtain ⟨j, M2, L2, hj, rfl, hb2, hg2, hf2, h⟩ := hrel
        have HB2 := Lib.hid hb2
        have HG2 := Lib.hid hg2
        have HF2 := Lib.hid hf2
        have HLt := Lib.hid h
        have HJ := Lib.hid hj
        obtain ⟨wq, rfl⟩ : ∃ wq : World, wq = wr := ⟨_, rfl⟩
        clear hb2 hg2 hf2 h
        by_cases hltj : 0 < L2.length
        · have hjj : (j : Int) < (m : Int) := by omega
          obtain ⟨hc1, hc2, hc3⟩ := HB2.out.back hltj
          have HC1 := Lib.hid hc1
          have HC2 := Lib.hid hc2
          have HGB := Lib.hid (bgood_back HG2.out HF2.out (by omega) L2)
          clear hc1 hc2
          go_wp2_with fail
          refine (st_back HLt.out 3 1 rfl rfl (by decide) 1 HG2.out (by decide) (by omega)).mono ?_
          rintro e wz ⟨he, h⟩
          rw [hc3] at he
          simp only [Bool.not_false] at he
          subst he
          have HLz := Lib.hid h
          clear h HLt hc3
          go_wp2_with fail
          go_roundw
          case rel => exact ⟨j + 1, _, _, by have := HC2.out; omega, by go_num, HC1.out, HGB.out.1, HGB.out.2, HLz.out⟩
          case measure => simp [intOf]; omega
        · obtain ⟨rfl, rfl⟩ := HB2.out.done (by omega)
          have hjj : ¬ (j : Int) < (m : Int) := by simp at hj; omega
          clear hltj
          go_wp2_with fail
          refine (st_same HLt.out 1 4 rfl rfl HG2.out HG2.out).mono ?_
          rintro e wz ⟨he, h⟩
          rw [decide_eq_true rfl] at he
          subst he
          have HLz := Lib.hid h
          clear h HLt
          go_wp2_with fail
          refine (st_back HLz.out 3 1 rfl rfl (by decide) 1 HG2.out (by decide) (by simp)).mono ?_
          rintro e wy ⟨he, h⟩
          rw [show (!(ofL [] 1 : List Ent).isEmpty) = false from rfl] at he
          subst he
          have HLy := Lib.hid h
          clear h HLz
          go_wp2_with fail
          refine (works_any _).mono ?_
          rintro e w9 ⟨rfl, hf⟩
          have HF := Lib.hid (HLy.out.fr.trans0 hf)
          clear hf
          go_wp2_with fail
          go_ret
          exact ⟨rfl, HF.out⟩
theorem rback_int (m n : Int) (h : CodeAt w lv L) (hcap : CapOk lv) (ht : IntsAt w tv TB) (ha : IntsAt w av args) (hm : (Lit.int .u8 m).wf = true) (hn : (Lit.int .u8 n).wf = true) :
    Calls Tryz.prog 4 #[lv, tv, .int .i64 nv, av, .int .u8 m, .int .u8 n] w fun e w' => e = .returned (.bool true) ∧ Fr w w' Nil := by
  have h1 := u8_range hm
  have h2 := u8_range hn
  obtain ⟨mm, rfl⟩ : ∃ mm : Nat, m = (mm : Int) := ⟨m.toNat, by omega⟩
  obtain ⟨sn, rfl⟩ : ∃ sn : Nat, n = (sn : Int) := ⟨n.toNat, by omega⟩
  exact rback_law lv tv av L TB args nv mm sn w h hcap ht ha (by omega) (by omega)
end
end Go.Proofs.YtgpekgnhbccnoaaGreat
