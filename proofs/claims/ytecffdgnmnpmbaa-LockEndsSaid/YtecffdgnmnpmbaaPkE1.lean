/-
  The law LockEnds: when all have left, there is nothing.
  No condition.
-/
import Derived.Test.YtecffdgnmnpmbaaPkC36
namespace Go.Proofs.Ytecffdgnmnpmbaa
open Go Go.RowKit Go.Maps

section
variable (most : Int) (cv : Value) (l : List CallK) (a : Int) (sp : Spot) (w : World)
set_option maxRecDepth 100000 in
set_option maxHeartbeats 8000000 in
theorem lends_main (hc : KCallsAt w cv l) (hl : l.length ≤ 80) (hm1 : 1 ≤ most) (hs1 : 0 ≤ sp.1) (hs2 : sp.2.1 = true ∨ sp.2.2 = 0) (ha : (Lit.int .i64 a).wf = true) (hsp : SWf sp) :
    Calls Try.prog 6 #[.int .i64 most, cv, .int .i64 a, spV sp] w fun e w' => e = .returned (.bool true) ∧ Fr w w' Nil := by
  obtain ⟨ca, cc, rfl, hcc⟩ := hc.shape
  obtain ⟨w0, hw0⟩ : ∃ w0, w.alloc (.cells #[.int .i64 sp.1, .bool sp.2.1, .int .i64 sp.2.2] 26) = w0 := ⟨_, rfl⟩
  have hf0 : Fr w w0 Nil := by rw [← hw0]; exact (Fr.refl w Nil).alloc _
  have hb0 : Bk w0 w.heap.size 26 [.int .i64 sp.1, .bool sp.2.1, .int .i64 sp.2.2] := by rw [← hw0]; exact Bk.new w _ _
  have hz0 : w0.heap.size = w.heap.size + 1 := by rw [← hw0]; exact World.size_alloc _ _
  have r0 : w0.cell? ⟨w.heap.size, 0, none⟩ = some (.int .i64 sp.1) := hb0.cell 0
  have r1 : w0.cell? ⟨w.heap.size, 1, none⟩ = some (.bool sp.2.1) := hb0.cell 1
  have r2 : w0.cell? ⟨w.heap.size, 2, none⟩ = some (.int .i64 sp.2.2) := hb0.cell 2
  have cN := new_U most w0
  rw [show max 0 most = most by omega] at cN
  have hcl80 : ¬ (80 : Int) < (l.length : Int) := by omega
  have hml : ¬ most < 1 := by omega
  have hsl : ¬ sp.1 < 0 := by omega
  have HMAY : Hid (mayL sp 5 = true) := by
    show _ = true
    unfold mayL
    simp only [Bool.and_eq_true, decide_eq_true_eq, bne_iff_ne, Bool.or_eq_true, beq_iff_eq]
    exact ⟨⟨⟨⟨by omega, by omega⟩, by omega⟩, hs1⟩, hs2⟩
  have HC := Lib.hid (hc.fr0 hf0)
  have HF0 := Lib.hid hf0
  have HB0 := Lib.hid hb0
  have HM1 := Lib.hid hm1
  have HZ0 := Lib.hid hz0
  have HAW := Lib.hid ha
  have HSPW := Lib.hid hsp
  have hk0 : sp.2.1 = false → (sp.2.2 != 0) = false := fun hrow => by
    rw [hrow] at hs2
    rw [bne_eq_false_iff_eq]
    exact hs2.resolve_left (by decide)
  clear hc hf0 hb0 hm1 hs1 hs2 hz0 ha hsp
  go_enter Try.func6, Try.ntmps6
  go_upto_region 1 with fail
  clear hw0
  go_cut [40] from 19 to 39 (fun v40 wx => v40 = .bool false ∧ w0 = wx)
  case first =>
    cases hrow : sp.2.1 with
    | true =>
      rw [hrow] at r1
      go_wp2_with fail
      go_meet
      exact ⟨rfl, rfl⟩
    | false =>
      rw [hrow] at r1
      have hk1 := hk0 hrow
      clear hk0
      go_wp2_with fail
      go_meet
      exact ⟨rfl, rfl⟩
  case rest =>
    obtain ⟨rfl, rfl⟩ := hcut
    clear hk0 r0 r1 r2
    go_wp2_with fail
    refine cN.mono ?_
    rintro e w1 ⟨lb, rfl, hU, hf1⟩
    have HU1 := Lib.hid hU
    have HF1 := Lib.hid hf1
    have HB1 := Lib.hid (HB0.out.fr hf1 fun h => h)
    have HCB := HC
    clear cN hU hf1
    go_wp2_with fail
    go_loopw [10] (fun vi wr => ∃ (i : Nat) (D : LkS), vi = .int .i64 (i : Int) ∧ i ≤ l.length ∧ Hid (LkU wr lb D i (3 + 4 * i) (Low w0.heap.size)) ∧ Hid (D.most = most) ∧ Hid (AllE (fun w _ => w ∈ whos l) D) ∧ Hid (Fr w0 wr Nil)) (fun vi _ => l.length - (intOf vi).toNat)
    case atStart => exact ⟨0, _, rfl, by omega, HU1.out, rfl, ⟨fun e he => (by cases he), fun e he => (by cases he)⟩, HF1.out⟩
    case round =>
      obtain ⟨i, D, rfl, hi, HU, HM, HE, HFR⟩ := hrel
      obtain ⟨wo, rfl⟩ : ∃ wo : World, wo = wr := ⟨_, rfl⟩
      have hzz : w0.heap.size ≤ wo.heap.size := HFR.out.size
      by_cases hlt : i < l.length
      · have hil : (i : Int) < (l.length : Int) := by omega
        obtain ⟨b, off, cap', hvv, hcl⟩ := HC.out.form (by omega)
        simp only [Value.slice.injEq, true_and] at hvv
        obtain ⟨rfl, rfl⟩ := hvv
        obtain ⟨t, ht⟩ : ∃ t, l[i]? = some t := ⟨_, List.getElem?_eq_getElem hlt⟩
        have hcw : ∀ j u, t.vals[j]? = some u → wo.cell? ⟨b, off + i * 6 + j, none⟩ = some u := fun j u hu => HFR.out.cell (hcl i t ht j u hu) (fun h => h)
        have p0 := hcw 0 _ rfl
        have p1 := hcw 1 _ rfl
        have p2 := hcw 2 _ rfl
        have p3 := hcw 3 _ rfl
        have p4 := hcw 4 _ rfl
        have p5 := hcw 5 _ rfl
        simp only [Nat.add_zero] at p0
        have HIN : Hid (t.who ∈ whos l) := who_in ht
        have OKT : Hid ((Lit.int .i64 t.who).wf = true ∧ SWf t.s ∧ 0 ≤ t.m) := ⟨t.okw, t.oks, t.okm.1⟩
        clear ht hcw hcl
        obtain ⟨tk, who, s, m, okk, okw, oks, okm⟩ := t
        dsimp only at p0 p1 p2 p3 p4 p5 OKT HIN
        clear okk okw oks okm
        have OKW := Lib.hid OKT.out.1
        have OKS := Lib.hid OKT.out.2.1
        have OKM := Lib.hid OKT.out.2.2
        clear OKT
        obtain ⟨kd, hkd⟩ : ∃ kd : Int, tk.tmod 10 = kd := ⟨_, rfl⟩
        obtain ⟨w5, hw5⟩ : ∃ w5, wo.alloc (.cells #[.int .u8 tk, .int .i64 who, .int .i64 s.1, .bool s.2.1, .int .i64 s.2.2, .int .u8 m] 42) = w5 := ⟨_, rfl⟩
        have hf5 : Fr wo w5 Nil := by rw [← hw5]; exact (Fr.refl wo Nil).alloc _
        have hb5 : Bk w5 wo.heap.size 42 [.int .u8 tk, .int .i64 who, .int .i64 s.1, .bool s.2.1, .int .i64 s.2.2, .int .u8 m] := by rw [← hw5]; exact Bk.new wo _ _
        have hz5 : w5.heap.size = wo.heap.size + 1 := by rw [← hw5]; exact World.size_alloc _ _
        have x0 : w5.cell? ⟨wo.heap.size, 0, none⟩ = some (.int .u8 tk) := hb5.cell 0
        have x1 : w5.cell? ⟨wo.heap.size, 1, none⟩ = some (.int .i64 who) := hb5.cell 1
        have x2 : w5.cell? ⟨wo.heap.size, 2, none⟩ = some (.int .i64 s.1) := hb5.cell 2
        have x3 : w5.cell? ⟨wo.heap.size, 3, none⟩ = some (.bool s.2.1) := hb5.cell 3
        have x4 : w5.cell? ⟨wo.heap.size, 4, none⟩ = some (.int .i64 s.2.2) := hb5.cell 4
        have x5 : w5.cell? ⟨wo.heap.size, 5, none⟩ = some (.int .u8 m) := hb5.cell 5
        have HU5 : Hid (LkU w5 lb D i (3 + 4 * i) (AtA w0.heap.size wo.heap.size)) := (HU.out.not fun k h1 h2 => (⟨h1, by omega⟩ : AtA w0.heap.size wo.heap.size k)).fr0 hf5
        have HA5 : Hid (∀ k, w5.heap.size ≤ k → AtA w0.heap.size wo.heap.size k) := fun k hk => ⟨by show w0.heap.size ≤ k; have := HFR.out.size; omega, by omega⟩
        have HF5 := Lib.hid (HFR.out.trans0 hf5)
        have HB5 := Lib.hid hb5
        have HZ5 := Lib.hid hz5
        have hN9 : i ≤ 100000 := by omega
        have hK9 : 3 + 4 * i ≤ 1000000000 := by omega
        clear hf5 hb5 hz5
        rcases kinds kd with (h6 | h9 | h7 | h8) | ⟨h6, h9, h7, h8⟩
        · subst h6
          go_wp2_with fail
          refine (HU5.out.free who s hN9 OKW.out OKS.out).mono ?_
          rintro e w6 ⟨ov, rfl, h1, hU, hf⟩
          obtain ⟨oa, oc, rfl⟩ := h1.shape
          have HU6 := Lib.hid hU
          have HF6 := Lib.hid hf
          clear h1 hU hf
          go_wp2_with fail
          go_roundw
          case rel =>
            have hE := doKd_all (kd := 6) HE.out who s m fun _ => HIN.out
            have hM := (doKd_most (kd := 6) HU.out.ok.inv who s m).trans HM.out
            rw [(doKd_free (.inl rfl) D who s m)] at hE hM
            exact ⟨i + 1, _, by go_num, by omega, (HU6.out.more (Nat.le_succ _) (by omega)).weak ata_low, hM, hE, low_back HF5.out HF6.out fun k h => h.1⟩
          case measure => simp [intOf]; omega
        · subst h9
          go_wp2_with fail
          refine (HU5.out.free who s hN9 OKW.out OKS.out).mono ?_
          rintro e w6 ⟨ov, rfl, h1, hU, hf⟩
          obtain ⟨oa, oc, rfl⟩ := h1.shape
          have HU6 := Lib.hid hU
          have HF6 := Lib.hid hf
          clear h1 hU hf
          go_wp2_with fail
          go_roundw
          case rel =>
            have hE := doKd_all (kd := 9) HE.out who s m fun _ => HIN.out
            have hM := (doKd_most (kd := 9) HU.out.ok.inv who s m).trans HM.out
            rw [(doKd_free (.inr rfl) D who s m)] at hE hM
            exact ⟨i + 1, _, by go_num, by omega, (HU6.out.more (Nat.le_succ _) (by omega)).weak ata_low, hM, hE, low_back HF5.out HF6.out fun k h => h.1⟩
          case measure => simp [intOf]; omega
        · subst h7
          go_wp2_with fail
          refine (HU5.out.cancel who hN9 OKW.out).mono ?_
          rintro e w6 ⟨ov, rfl, h1, hU, hf⟩
          obtain ⟨oa, oc, rfl⟩ := h1.shape
          have HU6 := Lib.hid hU
          have HF6 := Lib.hid hf
          clear h1 hU hf
          go_wp2_with fail
          go_roundw
          case rel =>
            have hE := doKd_all (kd := 7) HE.out who s m fun _ => HIN.out
            have hM := (doKd_most (kd := 7) HU.out.ok.inv who s m).trans HM.out
            rw [(doKd_cancel D who s m)] at hE hM
            exact ⟨i + 1, _, by go_num, by omega, (HU6.out.more (Nat.le_succ _) (by omega)).weak ata_low, hM, hE, low_back HF5.out HF6.out fun k h => h.1⟩
          case measure => simp [intOf]; omega
        · subst h8
          go_wp2_with fail
          refine (HU5.out.leave who hN9 OKW.out).mono ?_
          rintro e w6 ⟨ov, rfl, h1, hU, hf⟩
          obtain ⟨oa, oc, rfl⟩ := h1.shape
          have HU6 := Lib.hid hU
          have HF6 := Lib.hid hf
          clear h1 hU hf
          go_wp2_with fail
          go_roundw
          case rel =>
            have hE := doKd_all (kd := 8) HE.out who s m fun _ => HIN.out
            have hM := (doKd_most (kd := 8) HU.out.ok.inv who s m).trans HM.out
            rw [(doKd_leave D who s m)] at hE hM
            exact ⟨i + 1, _, by go_num, by omega, (HU6.out.more (Nat.le_succ _) (by omega)).weak ata_low, hM, hE, low_back HF5.out HF6.out fun k h => h.1⟩
          case measure => simp [intOf]; omega
        · have b6 : (kd == 6) = false := by rw [beq_eq_false_iff_ne]; exact h6
          have b9 : (kd == 9) = false := by rw [beq_eq_false_iff_ne]; exact h9
          have b7 : (kd == 7) = false := by rw [beq_eq_false_iff_ne]; exact h7
          have b8 : (kd == 8) = false := by rw [beq_eq_false_iff_ne]; exact h8
          have HK6 := Lib.hid (doKd_ask h6 h9 h7 h8 D who s m)
          clear h6 h9 h7 h8
          go_wp2_with fail
          refine (HU5.out.ask HA5.out who s m hN9 hK9 OKW.out OKS.out OKM.out).mono ?_
          rintro e w6 ⟨rfl, hU, hf⟩
          have HU6 := Lib.hid hU
          have HF6 := Lib.hid hf
          clear hU hf
          go_wp2_with fail
          go_roundw
          case rel =>
            have hE := doKd_all (kd := kd) HE.out who s m fun _ => HIN.out
            have hM := (doKd_most (kd := kd) HU.out.ok.inv who s m).trans HM.out
            rw [HK6.out] at hE hM
            exact ⟨i + 1, _, by go_num, by omega, HU6.out.weak ata_low, hM, hE, low_back HF5.out HF6.out fun k h => h.1⟩
          case measure => simp [intOf]; omega
      · obtain rfl : i = l.length := by omega
        have HNN : Hid (NoneOf ((whos l).take 0) D) := ⟨fun e he h => by simp at h, fun e he h => by simp at h⟩
        have HU2 := HU
        have HM2 := HM
        have HE2 := HE
        have HFR2 := HFR
        have hN9 : l.length ≤ 100000 := by omega
        clear HU1 HF1 HB1
        go_wp2_with fail
        go_loopw [12] (fun vi wr => ∃ (i : Nat) (D : LkS), vi = .int .i64 (i : Int) ∧ i ≤ l.length ∧ Hid (LkU wr lb D l.length (3 + 4 * l.length) (Low w0.heap.size)) ∧ Hid (D.most = most) ∧ Hid (AllE (fun w _ => w ∈ whos l) D) ∧ Hid (NoneOf ((whos l).take i) D) ∧ Hid (Fr w0 wr Nil)) (fun vi _ => l.length - (intOf vi).toNat)
        case atStart => exact ⟨0, D, rfl, by omega, HU2.out, HM2.out, HE2.out, HNN.out, HFR2.out⟩
        case round =>
          clear HU HM HE HFR HU2 HM2 HE2 HFR2 HNN hzz hlt hi D
          obtain ⟨i, D, rfl, hi, HU, HM, HE, HNN, HFR⟩ := hrel
          obtain ⟨wo, rfl⟩ : ∃ wo : World, wo = wr := ⟨_, rfl⟩
          by_cases hlt : i < l.length
          · have hil : (i : Int) < (l.length : Int) := by omega
            obtain ⟨b, off, cap', hvv, hcl⟩ := HC.out.form (by omega)
            simp only [Value.slice.injEq, true_and] at hvv
            obtain ⟨rfl, rfl⟩ := hvv
            obtain ⟨t, ht⟩ : ∃ t, l[i]? = some t := ⟨_, List.getElem?_eq_getElem hlt⟩
            have p1 : wo.cell? ⟨b, off + i * 6 + 1, none⟩ = some (.int .i64 t.who) := HFR.out.cell (hcl i t ht 1 _ rfl) (fun h => h)
            have HTK : Hid ((whos l).take (i + 1) = (whos l).take i ++ [t.who]) := by
              show _ = _
              unfold whos
              rw [List.take_add_one, List.getElem?_map, ht]; rfl
            have cL := HU.out.leave t.who hN9 t.okw
            generalize t.who = who at *
            clear ht hcl
            go_wp2_with fail
            refine cL.mono ?_
            rintro e w6 ⟨ov, rfl, h1, hU, hf⟩
            obtain ⟨oa, oc, rfl⟩ := h1.shape
            have HU6 := Lib.hid hU
            have HF6 := Lib.hid (low_back HFR.out hf fun k h => h)
            clear h1 hU hf cL p1
            go_wp2_with fail
            go_roundw
            case rel =>
              have hE := doKd_all (kd := 8) HE.out who (0, false, 0) 0 fun h => (by cases h)
              have hM := (leave_used HU.out.ok.inv who).2.trans HM.out
              have hN := none_leave HNN.out who
              rw [← HTK.out] at hN
              exact ⟨i + 1, _, by go_num, by omega, HU6.out, hM, hE, hN, HF6.out⟩
            case measure => simp [intOf]; omega
          · obtain rfl : i = l.length := by omega
            have hnn := HNN.out
            rw [show (whos l).take l.length = whos l from List.take_of_length_le (by unfold whos; rw [List.length_map]; exact Nat.le_refl _)] at hnn
            obtain ⟨hD1, hD2⟩ := none_at_all hnn HE.out
            have hDm := HM.out
            obtain ⟨Dm, DH, DW⟩ := D
            simp only at hD1 hD2 hDm
            subst hD1
            subst hD2
            subst hDm
            have HU2 := HU
            have HFR2 := HFR
            clear hnn HM HE HNN
            go_wp2_with fail
            go_loopw [13] (fun vi wr => ∃ i : Nat, vi = .int .i64 (i : Int) ∧ i ≤ l.length ∧ Hid (LkU wr lb ⟨Dm, [], []⟩ l.length (3 + 4 * l.length) (Low w0.heap.size)) ∧ Hid (Fr w0 wr Nil)) (fun vi _ => l.length - (intOf vi).toNat)
            case atStart => exact ⟨0, rfl, by omega, HU2.out, HFR2.out⟩
            case round =>
              clear HU HFR HU2 HFR2 hlt hi
              obtain ⟨i, rfl, hi, HU, HFR⟩ := hrel
              obtain ⟨wo, rfl⟩ : ∃ wo : World, wo = wr := ⟨_, rfl⟩
              by_cases hlt : i < l.length
              · have hil : (i : Int) < (l.length : Int) := by omega
                obtain ⟨b, off, cap', hvv, hcl⟩ := HC.out.form (by omega)
                simp only [Value.slice.injEq, true_and] at hvv
                obtain ⟨rfl, rfl⟩ := hvv
                obtain ⟨t, ht⟩ : ∃ t, l[i]? = some t := ⟨_, List.getElem?_eq_getElem hlt⟩
                have HP : Hid (∀ j u, t.vals[j]? = some u → w0.cell? ⟨b, off + i * 6 + j, none⟩ = some u) := fun j u hu => hcl i t ht j u hu
                have p1 : wo.cell? ⟨b, off + i * 6 + 1, none⟩ = some (.int .i64 t.who) := HFR.out.cell (HP.out 1 _ rfl) (fun h => h)
                have cW := HU.out.waits t.who hN9 t.okw
                rw [show waitsL ⟨Dm, [], []⟩ t.who = ((0, false, 0), 0, false) from rfl] at cW
                have HTW := Lib.hid t.okw
                have HTS := Lib.hid t.oks
                clear ht hcl
                go_wp2_with fail
                refine cW.mono ?_
                rintro e w2 ⟨rfl, hf2⟩
                obtain ⟨w3, hw3⟩ : ∃ w3, w2.alloc (.cells #[.int .i64 0, .bool false, .int .i64 0] 26) = w3 := ⟨_, rfl⟩
                have hf3 : Fr wo w3 Nil := by rw [← hw3]; exact hf2.alloc _
                have HU3 := Lib.hid (HU.out.fr0 hf3)
                have HF3 := Lib.hid (HFR.out.trans0 hf3)
                have h20 : Fr w2 (w2.alloc (.cells #[.int .i64 0, .bool false, .int .i64 0] 26)) Nil := (Fr.refl w2 Nil).alloc _
                have p1' : (w2.alloc (.cells #[.int .i64 0, .bool false, .int .i64 0] 26)).cell? ⟨b, off + i * 6 + 1, none⟩ = some (.int .i64 t.who) := by rw [hw3]; exact HF3.out.cell (HP.out 1 _ rfl) (fun h => h)
                have cS := HU3.out.spots t.who hN9 HTW.out
                rw [show spotsL (LkS.mk Dm [] []).H t.who = [] from rfl] at cS
                clear hf2 hf3 h20 cW p1
                rw [← hw3] at cS
                have HW3 := Lib.hid hw3
                clear hw3
                go_wp2_with fail
                refine cS.mono ?_
                rintro e w4 ⟨v4, rfl, g1, g2, hf4⟩
                obtain ⟨sa, sc, rfl⟩ := g1.shape
                rw [HW3.out] at hf4
                have HU4 := Lib.hid (HU3.out.fr0 hf4)
                have HF4 := Lib.hid (HF3.out.trans0 hf4)
                have p2 : w4.cell? ⟨b, off + i * 6 + 2, none⟩ = some (.int .i64 t.s.1) := HF4.out.cell (HP.out 2 _ rfl) (fun h => h)
                have p3 : w4.cell? ⟨b, off + i * 6 + 3, none⟩ = some (.bool t.s.2.1) := HF4.out.cell (HP.out 3 _ rfl) (fun h => h)
                have p4 : w4.cell? ⟨b, off + i * 6 + 4, none⟩ = some (.int .i64 t.s.2.2) := HF4.out.cell (HP.out 4 _ rfl) (fun h => h)
                have cH := HU4.out.holders t.s hN9 HTS.out
                rw [show holdersL (LkS.mk Dm [] []).H t.s = [] from by unfold holdersL keysM holdsOf prs; simp] at cH
                clear g1 g2 hf4 cS p1'
                go_wp2_with fail
                refine cH.mono ?_
                rintro e w5 ⟨v5, rfl, g1, g2, hf5⟩
                obtain ⟨ha_, hc_, rfl⟩ := g1.shape
                have HU5 := Lib.hid (HU4.out.fr0 hf5)
                have HF5 := Lib.hid (HF4.out.trans0 hf5)
                have p2 : w5.cell? ⟨b, off + i * 6 + 2, none⟩ = some (.int .i64 t.s.1) := HF5.out.cell (HP.out 2 _ rfl) (fun h => h)
                have p3 : w5.cell? ⟨b, off + i * 6 + 3, none⟩ = some (.bool t.s.2.1) := HF5.out.cell (HP.out 3 _ rfl) (fun h => h)
                have p4 : w5.cell? ⟨b, off + i * 6 + 4, none⟩ = some (.int .i64 t.s.2.2) := HF5.out.cell (HP.out 4 _ rfl) (fun h => h)
                have cQ := HU5.out.queue t.s hN9 HTS.out
                rw [show prs (queueL (LkS.mk Dm [] []).H (LkS.mk Dm [] []).W t.s) = [] from rfl] at cQ
                clear g1 g2 hf5 cH
                go_wp2_with fail
                refine cQ.mono ?_
                rintro e w6 ⟨v6, rfl, g1, g2, hf6⟩
                obtain ⟨qa, qc, rfl⟩ := g1.shape
                have HU6 := Lib.hid (HU5.out.fr0 hf6)
                have HF6 := Lib.hid (HF5.out.trans0 hf6)
                clear g1 g2 hf6 cQ p2 p3 p4
                go_wp2_with fail
                go_roundw
                case rel => exact ⟨i + 1, by go_num, by omega, HU6.out, HF6.out⟩
                case measure => simp [intOf]; omega
              · obtain rfl : i = l.length := by omega
                have cU := HU.out.used hN9
                rw [show usedL ⟨Dm, [], []⟩ = 0 from rfl] at cU
                go_wp2_with fail
                refine cU.mono ?_
                rintro e w2 ⟨rfl, hf2⟩
                have HU2 := Lib.hid (HU.out.fr0 hf2)
                have HF2 := Lib.hid (HFR.out.trans0 hf2)
                have hb2 := HB0.out.fr HF2.out (fun h => h)
                have r0 : w2.cell? ⟨w.heap.size, 0, none⟩ = some (.int .i64 sp.1) := hb2.cell 0
                have r1 : w2.cell? ⟨w.heap.size, 1, none⟩ = some (.bool sp.2.1) := hb2.cell 1
                have r2 : w2.cell? ⟨w.heap.size, 2, none⟩ = some (.int .i64 sp.2.2) := hb2.cell 2
                have cA := HU2.out.ask (fun k hk => Nat.le_trans HF2.out.size hk) a sp 5 hN9 (by omega) HAW.out HSPW.out (by decide)
                rw [ask_alone HM1.out HMAY.out] at cA
                rw [show joinM 0 5 = 5 from rfl] at cA
                clear hf2 hb2 cU
                go_wp2_with fail
                refine cA.mono ?_
                rintro e w3 ⟨rfl, hU3, hf3⟩
                have HU3 := Lib.hid hU3
                have HF3 := Lib.hid (low_back HF2.out hf3 fun k h => h)
                have hb3 := HB0.out.fr HF3.out (fun h => h)
                have cU := HU3.out.used (by omega)
                rw [show usedL ⟨Dm, [⟨sp, a, 5⟩], []⟩ = 1 from rfl] at cU
                clear hU3 hf3 cA r0 r1 r2
                go_wp2_with fail
                refine cU.mono ?_
                rintro e w4 ⟨rfl, hf4⟩
                have HU4 := Lib.hid (HU3.out.fr0 hf4)
                have HF4 := Lib.hid (HF3.out.trans0 hf4)
                have hb4 := hb3.fr hf4 (fun h => h)
                have r0 : w4.cell? ⟨w.heap.size, 0, none⟩ = some (.int .i64 sp.1) := hb4.cell 0
                have r1 : w4.cell? ⟨w.heap.size, 1, none⟩ = some (.bool sp.2.1) := hb4.cell 1
                have r2 : w4.cell? ⟨w.heap.size, 2, none⟩ = some (.int .i64 sp.2.2) := hb4.cell 2
                have cD := HU4.out.held a sp HAW.out HSPW.out
                rw [show heldL (LkS.mk Dm [⟨sp, a, 5⟩] []).H a sp = 5 from by simp [heldL]] at cD
                clear hf4 hb3 hb4 cU
                go_wp2_with fail
                refine cD.mono ?_
                rintro e w5 ⟨rfl, hf5⟩
                have HF5 := Lib.hid (HF4.out.trans0 hf5)
                clear hf5 cD r0 r1 r2
                go_wp2_with fail
                refine (works_any w5).mono ?_
                rintro e w6 ⟨rfl, hf6⟩
                have HF6 := Lib.hid ((HF0.out.trans0 HF5.out).trans0 hf6)
                clear hf6
                go_wp2_with fail
                go_ret
                exact ⟨rfl, HF6.out⟩
set_option maxRecDepth 100000 in
set_option maxHeartbeats 4000000 in
theorem lends_out1 (hc : KCallsAt w cv l) (hl : 80 < l.length) :
    Calls Try.prog 6 #[.int .i64 most, cv, .int .i64 a, spV sp] w fun e w' => e = .returned (.bool true) ∧ Fr w w' Nil := by
  obtain ⟨ca, cc, rfl, hcc⟩ := hc.shape
  obtain ⟨w0, hw0⟩ : ∃ w0, w.alloc (.cells #[.int .i64 sp.1, .bool sp.2.1, .int .i64 sp.2.2] 26) = w0 := ⟨_, rfl⟩
  have hf0 : Fr w w0 Nil := by rw [← hw0]; exact (Fr.refl w Nil).alloc _
  have hb0 : Bk w0 w.heap.size 26 [.int .i64 sp.1, .bool sp.2.1, .int .i64 sp.2.2] := by rw [← hw0]; exact Bk.new w _ _
  have r0 : w0.cell? ⟨w.heap.size, 0, none⟩ = some (.int .i64 sp.1) := hb0.cell 0
  have r1 : w0.cell? ⟨w.heap.size, 1, none⟩ = some (.bool sp.2.1) := hb0.cell 1
  have r2 : w0.cell? ⟨w.heap.size, 2, none⟩ = some (.int .i64 sp.2.2) := hb0.cell 2
  have HF0 := Lib.hid hf0
  clear hc hf0 hb0
  have h1 : (80 : Int) < (l.length : Int) := by omega
  go_enter Try.func6, Try.ntmps6
  go_wp2_with fail
  refine (works_any _).mono ?_
  rintro e w9 ⟨rfl, hf9⟩
  have HF9 := Lib.hid (HF0.out.trans0 hf9)
  clear hf9
  go_wp2_with fail
  go_ret
  exact ⟨rfl, HF9.out⟩
set_option maxRecDepth 100000 in
set_option maxHeartbeats 4000000 in
theorem lends_out2 (hc : KCallsAt w cv l) (hl : l.length ≤ 80) (hm : most < 1) :
    Calls Try.prog 6 #[.int .i64 most, cv, .int .i64 a, spV sp] w fun e w' => e = .returned (.bool true) ∧ Fr w w' Nil := by
  obtain ⟨ca, cc, rfl, hcc⟩ := hc.shape
  obtain ⟨w0, hw0⟩ : ∃ w0, w.alloc (.cells #[.int .i64 sp.1, .bool sp.2.1, .int .i64 sp.2.2] 26) = w0 := ⟨_, rfl⟩
  have hf0 : Fr w w0 Nil := by rw [← hw0]; exact (Fr.refl w Nil).alloc _
  have hb0 : Bk w0 w.heap.size 26 [.int .i64 sp.1, .bool sp.2.1, .int .i64 sp.2.2] := by rw [← hw0]; exact Bk.new w _ _
  have r0 : w0.cell? ⟨w.heap.size, 0, none⟩ = some (.int .i64 sp.1) := hb0.cell 0
  have r1 : w0.cell? ⟨w.heap.size, 1, none⟩ = some (.bool sp.2.1) := hb0.cell 1
  have r2 : w0.cell? ⟨w.heap.size, 2, none⟩ = some (.int .i64 sp.2.2) := hb0.cell 2
  have HF0 := Lib.hid hf0
  clear hc hf0 hb0
  have h1 : ¬ (80 : Int) < (l.length : Int) := by omega
  go_enter Try.func6, Try.ntmps6
  go_wp2_with fail
  refine (works_any _).mono ?_
  rintro e w9 ⟨rfl, hf9⟩
  have HF9 := Lib.hid (HF0.out.trans0 hf9)
  clear hf9
  go_wp2_with fail
  go_ret
  exact ⟨rfl, HF9.out⟩
set_option maxRecDepth 100000 in
set_option maxHeartbeats 4000000 in
theorem lends_out3 (hc : KCallsAt w cv l) (hl : l.length ≤ 80) (hm : 1 ≤ most) (hs : sp.1 < 0) :
    Calls Try.prog 6 #[.int .i64 most, cv, .int .i64 a, spV sp] w fun e w' => e = .returned (.bool true) ∧ Fr w w' Nil := by
  obtain ⟨ca, cc, rfl, hcc⟩ := hc.shape
  obtain ⟨w0, hw0⟩ : ∃ w0, w.alloc (.cells #[.int .i64 sp.1, .bool sp.2.1, .int .i64 sp.2.2] 26) = w0 := ⟨_, rfl⟩
  have hf0 : Fr w w0 Nil := by rw [← hw0]; exact (Fr.refl w Nil).alloc _
  have hb0 : Bk w0 w.heap.size 26 [.int .i64 sp.1, .bool sp.2.1, .int .i64 sp.2.2] := by rw [← hw0]; exact Bk.new w _ _
  have r0 : w0.cell? ⟨w.heap.size, 0, none⟩ = some (.int .i64 sp.1) := hb0.cell 0
  have r1 : w0.cell? ⟨w.heap.size, 1, none⟩ = some (.bool sp.2.1) := hb0.cell 1
  have r2 : w0.cell? ⟨w.heap.size, 2, none⟩ = some (.int .i64 sp.2.2) := hb0.cell 2
  have HF0 := Lib.hid hf0
  clear hc hf0 hb0
  have h1 : ¬ (80 : Int) < (l.length : Int) := by omega
  have h2 : ¬ most < 1 := by omega
  go_enter Try.func6, Try.ntmps6
  go_wp2_with fail
  refine (works_any _).mono ?_
  rintro e w9 ⟨rfl, hf9⟩
  have HF9 := Lib.hid (HF0.out.trans0 hf9)
  clear hf9
  go_wp2_with fail
  go_ret
  exact ⟨rfl, HF9.out⟩
set_option maxRecDepth 100000 in
set_option maxHeartbeats 4000000 in
theorem lends_out4 (hc : KCallsAt w cv l) (hl : l.length ≤ 80) (hm : 1 ≤ most) (hs : 0 ≤ sp.1) (hr : sp.2.1 = false) (hk : sp.2.2 ≠ 0) :
    Calls Try.prog 6 #[.int .i64 most, cv, .int .i64 a, spV sp] w fun e w' => e = .returned (.bool true) ∧ Fr w w' Nil := by
  obtain ⟨ca, cc, rfl, hcc⟩ := hc.shape
  obtain ⟨w0, hw0⟩ : ∃ w0, w.alloc (.cells #[.int .i64 sp.1, .bool sp.2.1, .int .i64 sp.2.2] 26) = w0 := ⟨_, rfl⟩
  have hf0 : Fr w w0 Nil := by rw [← hw0]; exact (Fr.refl w Nil).alloc _
  have hb0 : Bk w0 w.heap.size 26 [.int .i64 sp.1, .bool sp.2.1, .int .i64 sp.2.2] := by rw [← hw0]; exact Bk.new w _ _
  have r0 : w0.cell? ⟨w.heap.size, 0, none⟩ = some (.int .i64 sp.1) := hb0.cell 0
  have r1 : w0.cell? ⟨w.heap.size, 1, none⟩ = some (.bool sp.2.1) := hb0.cell 1
  have r2 : w0.cell? ⟨w.heap.size, 2, none⟩ = some (.int .i64 sp.2.2) := hb0.cell 2
  have HF0 := Lib.hid hf0
  clear hc hf0 hb0
  have h1 : ¬ (80 : Int) < (l.length : Int) := by omega
  have h2 : ¬ most < 1 := by omega
  have h3 : ¬ sp.1 < 0 := by omega
  have h4 : (sp.2.2 != 0) = true := by rw [bne_iff_ne]; exact hk
  rw [hr] at r1 hw0
  clear hk
  go_enter Try.func6, Try.ntmps6
  go_wp2_with fail
  refine (works_any _).mono ?_
  rintro e w9 ⟨rfl, hf9⟩
  have HF9 := Lib.hid (HF0.out.trans0 hf9)
  clear hf9
  go_wp2_with fail
  go_ret
  exact ⟨rfl, HF9.out⟩
theorem lends_any (hc : KCallsAt w cv l) (ha : (Lit.int .i64 a).wf = true) (hsp : SWf sp) :
    Calls Try.prog 6 #[.int .i64 most, cv, .int .i64 a, spV sp] w fun e w' => e = .returned (.bool true) ∧ Fr w w' Nil := by
  by_cases hl : l.length ≤ 80
  · by_cases hm : 1 ≤ most
    · by_cases hs : 0 ≤ sp.1
      · cases hr : sp.2.1 with
        | true => exact lends_main most cv l a sp w hc hl hm hs (.inl hr) ha hsp
        | false =>
          by_cases hk : sp.2.2 = 0
          · exact lends_main most cv l a sp w hc hl hm hs (.inr hk) ha hsp
          · exact lends_out4 most cv l a sp w hc hl hm hs hr hk
      · exact lends_out3 most cv l a sp w hc hl hm (by omega)
    · exact lends_out2 most cv l a sp w hc hl (by omega)
  · exact lends_out1 most cv l a sp w hc (by omega)
end
end Go.Proofs.Ytecffdgnmnpmbaa
