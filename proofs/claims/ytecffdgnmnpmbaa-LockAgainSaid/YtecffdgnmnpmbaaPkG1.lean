/-
  The law LockAgain: who asks again has it, and nothing changes.
  No condition.
-/
import Derived.Test.YtecffdgnmnpmbaaPkC36
import Derived.Test.YtecffdgnmnpmbaaPkC7
import Derived.Test.YtecffdgnmnpmbaaPkC6
import Derived.Deep.CutBlock
namespace Go.Proofs.Ytecffdgnmnpmbaa
open Go Go.RowKit Go.Maps

def okS (_ : Int) (s : Spot) : Prop := 0 ≤ s.1 ∧ (s.2.1 = true ∨ s.2.2 = 0)
theorem okS_may {who : Int} {s : Spot} {m : Int} (h : mayL s m = true) : okS who s := by
  unfold mayL at h
  simp only [Bool.and_eq_true, decide_eq_true_eq, bne_iff_ne, Bool.or_eq_true, beq_iff_eq] at h
  exact ⟨h.1.2, h.2⟩
theorem wrap8' {x : Int} (h : 0 ≤ x) (h2 : x < 255) : IntKind.u8.wrap (x + 1) = x + 1 := by rw [IntKind.wrap_u8]; omega
section
variable (most : Int) (cv : Value) (l : List CallK) (w : World)
set_option maxRecDepth 100000 in
set_option maxHeartbeats 8000000 in
theorem lagain_main (hc : KCallsAt w cv l) (hl : l.length ≤ 60) :
    Calls Try.prog 7 #[.int .i64 most, cv] w fun e w' => e = .returned (.bool true) ∧ Fr w w' Nil := by
  obtain ⟨ca, cc, rfl, hcc⟩ := hc.shape
  have cN := new_U most w
  have hcl80 : ¬ (60 : Int) < (l.length : Int) := by omega
  have HC := Lib.hid hc
  clear hc
  go_enter Try.func7, Try.ntmps7
  go_wp2_with fail
  refine cN.mono ?_
  rintro e w1 ⟨lb, rfl, hU, hf1⟩
  have HU1 := Lib.hid hU
  have HF1 := Lib.hid hf1
  clear cN hU hf1
  go_wp2_with fail
  go_loopw [6] (fun vi wr => ∃ (i n : Nat) (D : LkS), vi = .int .i64 (i : Int) ∧ i ≤ l.length ∧ n ≤ 6 * i ∧ Hid (LkU wr lb D n (3 + 4 * n) (Low w.heap.size)) ∧ Hid (AllE okS D) ∧ Hid (Fr w wr Nil)) (fun vi _ => l.length - (intOf vi).toNat)
  case atStart => exact ⟨0, 0, _, rfl, by omega, by omega, HU1.out, ⟨fun e he => (by cases he), fun e he => (by cases he)⟩, HF1.out⟩
  case round =>
    clear HU1 HF1
    obtain ⟨i, n, D, rfl, hi, hn, HU, HE, HFR⟩ := hrel
    obtain ⟨wo, rfl⟩ : ∃ wo : World, wo = wr := ⟨_, rfl⟩
    have hzz : w.heap.size ≤ wo.heap.size := HFR.out.size
    by_cases hlt : i < l.length
    · have hil : (i : Int) < (l.length : Int) := by omega
      obtain ⟨b, off, cap', hvv, hcl⟩ := HC.out.form (by omega)
      simp only [Value.slice.injEq, true_and] at hvv
      obtain ⟨rfl, rfl⟩ := hvv
      obtain ⟨t, ht⟩ : ∃ t, l[i]? = some t := ⟨_, List.getElem?_eq_getElem hlt⟩
      have hcw : ∀ j u, t.vals[j]? = some u → wo.cell? ⟨b, off + i * 6 + j, none⟩ = some u := fun j u hu => HFR.out.cell (hcl i t ht j u hu) (fun h => h)
      have p0 := hcw 0 _ rfl
      have p1 := hcw 1 _ rfl
      have p2 := hcw 2 _ rfl
      have p3 := hcw 3 _ rfl
      have p4 := hcw 4 _ rfl
      have p5 := hcw 5 _ rfl
      simp only [Nat.add_zero] at p0
      have OKT : Hid ((Lit.int .i64 t.who).wf = true ∧ SWf t.s ∧ 0 ≤ t.m) := ⟨t.okw, t.oks, t.okm.1⟩
      clear ht hcw hcl
      obtain ⟨tk, who, s, m, okk, okw, oks, okm⟩ := t
      dsimp only at p0 p1 p2 p3 p4 p5 OKT 
      clear okk okw oks okm
      have OKW := Lib.hid OKT.out.1
      have OKS := Lib.hid OKT.out.2.1
      have OKM := Lib.hid OKT.out.2.2
      clear OKT
      obtain ⟨kd, hkd⟩ : ∃ kd : Int, tk.tmod 10 = kd := ⟨_, rfl⟩
      obtain ⟨w5, hw5⟩ : ∃ w5, wo.alloc (.cells #[.int .u8 tk, .int .i64 who, .int .i64 s.1, .bool s.2.1, .int .i64 s.2.2, .int .u8 m] 42) = w5 := ⟨_, rfl⟩
      have hf5 : Fr wo w5 Nil := by rw [← hw5]; exact (Fr.refl wo Nil).alloc _
      have hb5 : Bk w5 wo.heap.size 42 [.int .u8 tk, .int .i64 who, .int .i64 s.1, .bool s.2.1, .int .i64 s.2.2, .int .u8 m] := by rw [← hw5]; exact Bk.new wo _ _
      have hz5 : w5.heap.size = wo.heap.size + 1 := by rw [← hw5]; exact World.size_alloc _ _
      have x0 : w5.cell? ⟨wo.heap.size, 0, none⟩ = some (.int .u8 tk) := hb5.cell 0
      have x1 : w5.cell? ⟨wo.heap.size, 1, none⟩ = some (.int .i64 who) := hb5.cell 1
      have x2 : w5.cell? ⟨wo.heap.size, 2, none⟩ = some (.int .i64 s.1) := hb5.cell 2
      have x3 : w5.cell? ⟨wo.heap.size, 3, none⟩ = some (.bool s.2.1) := hb5.cell 3
      have x4 : w5.cell? ⟨wo.heap.size, 4, none⟩ = some (.int .i64 s.2.2) := hb5.cell 4
      have x5 : w5.cell? ⟨wo.heap.size, 5, none⟩ = some (.int .u8 m) := hb5.cell 5
      have HU5 : Hid (LkU w5 lb D n (3 + 4 * n) (AtA w.heap.size wo.heap.size)) := (HU.out.not fun k h1 h2 => (⟨h1, by omega⟩ : AtA w.heap.size wo.heap.size k)).fr0 hf5
      have HA5 : Hid (∀ k, w5.heap.size ≤ k → AtA w.heap.size wo.heap.size k) := fun k hk => ⟨by show w.heap.size ≤ k; have := HFR.out.size; omega, by omega⟩
      have HF5 := Lib.hid (HFR.out.trans0 hf5)
      have HB5 := Lib.hid hb5
      have HZ5 := Lib.hid hz5
      have hN9 : n ≤ 100000 := by omega
      have hK9 : 3 + 4 * n ≤ 1000000000 := by omega
      clear hf5 hb5 hz5
      go_upto_block 2 with fail
      go_cut [] from 45 to 65 (fun wx => ∃ (D2 : LkS) (n2 : Nat), n2 ≤ n + 1 ∧ Hid (LkU wx lb D2 n2 (3 + 4 * n2) (AtA w.heap.size wo.heap.size)) ∧ Hid (AllE okS D2) ∧ Hid (Fr w5 wx (AtA w.heap.size wo.heap.size)))
      case first =>
        rcases kinds kd with (h6 | h9 | h7 | h8) | ⟨h6, h9, h7, h8⟩
        · subst h6
          go_wp2_with fail
          refine (HU5.out.free who s hN9 OKW.out OKS.out).mono ?_
          rintro e w6 ⟨ov, rfl, h1, hU, hf⟩
          obtain ⟨oa, oc, rfl⟩ := h1.shape
          have HU6 := Lib.hid hU
          have HF6 := Lib.hid hf
          clear h1 hU hf
          go_wp2_with fail
          go_meet
          have hE := doKd_all (kd := 6) HE.out who s m okS_may
          rw [(doKd_free (.inl rfl) D who s m)] at hE
          exact ⟨_, n + 1, Nat.le_refl _, (HU6.out.more (Nat.le_succ _) (by omega)), hE, HF6.out⟩
        · subst h9
          go_wp2_with fail
          refine (HU5.out.free who s hN9 OKW.out OKS.out).mono ?_
          rintro e w6 ⟨ov, rfl, h1, hU, hf⟩
          obtain ⟨oa, oc, rfl⟩ := h1.shape
          have HU6 := Lib.hid hU
          have HF6 := Lib.hid hf
          clear h1 hU hf
          go_wp2_with fail
          go_meet
          have hE := doKd_all (kd := 9) HE.out who s m okS_may
          rw [(doKd_free (.inr rfl) D who s m)] at hE
          exact ⟨_, n + 1, Nat.le_refl _, (HU6.out.more (Nat.le_succ _) (by omega)), hE, HF6.out⟩
        · subst h7
          go_wp2_with fail
          refine (HU5.out.cancel who hN9 OKW.out).mono ?_
          rintro e w6 ⟨ov, rfl, h1, hU, hf⟩
          obtain ⟨oa, oc, rfl⟩ := h1.shape
          have HU6 := Lib.hid hU
          have HF6 := Lib.hid hf
          clear h1 hU hf
          go_wp2_with fail
          go_meet
          have hE := doKd_all (kd := 7) HE.out who s m okS_may
          rw [(doKd_cancel D who s m)] at hE
          exact ⟨_, n + 1, Nat.le_refl _, (HU6.out.more (Nat.le_succ _) (by omega)), hE, HF6.out⟩
        · subst h8
          go_wp2_with fail
          refine (HU5.out.leave who hN9 OKW.out).mono ?_
          rintro e w6 ⟨ov, rfl, h1, hU, hf⟩
          obtain ⟨oa, oc, rfl⟩ := h1.shape
          have HU6 := Lib.hid hU
          have HF6 := Lib.hid hf
          clear h1 hU hf
          go_wp2_with fail
          go_meet
          have hE := doKd_all (kd := 8) HE.out who s m okS_may
          rw [(doKd_leave D who s m)] at hE
          exact ⟨_, n + 1, Nat.le_refl _, (HU6.out.more (Nat.le_succ _) (by omega)), hE, HF6.out⟩
        · have b6 : (kd == 6) = false := by rw [beq_eq_false_iff_ne]; exact h6
          have b9 : (kd == 9) = false := by rw [beq_eq_false_iff_ne]; exact h9
          have b7 : (kd == 7) = false := by rw [beq_eq_false_iff_ne]; exact h7
          have b8 : (kd == 8) = false := by rw [beq_eq_false_iff_ne]; exact h8
          have HK6 := Lib.hid (doKd_ask h6 h9 h7 h8 D who s m)
          clear h6 h9 h7 h8
          go_wp2_with fail
          refine (HU5.out.ask HA5.out who s m hN9 hK9 OKW.out OKS.out OKM.out).mono ?_
          rintro e w6 ⟨rfl, hU, hf⟩
          have HU6 := Lib.hid hU
          have HF6 := Lib.hid hf
          clear hU hf
          go_wp2_with fail
          go_meet
          have hE := doKd_all (kd := kd) HE.out who s m okS_may
          rw [HK6.out] at hE
          exact ⟨_, n + 1, Nat.le_refl _, HU6.out, hE, HF6.out⟩
      case rest =>
        obtain ⟨D2, n2, hn2, HU2, HE2, HF2⟩ := hcut
        have hb6 := HB5.out.fr HF2.out (fun h => h.2 rfl)
        have y1 : wc.cell? ⟨wo.heap.size, 1, none⟩ = some (.int .i64 who) := hb6.cell 1
        have y2 : wc.cell? ⟨wo.heap.size, 2, none⟩ = some (.int .i64 s.1) := hb6.cell 2
        have y3 : wc.cell? ⟨wo.heap.size, 3, none⟩ = some (.bool s.2.1) := hb6.cell 3
        have y4 : wc.cell? ⟨wo.heap.size, 4, none⟩ = some (.int .i64 s.2.2) := hb6.cell 4
        have HAc : Hid (∀ k, wc.heap.size ≤ k → (AtA w.heap.size wo.heap.size) k) := fun k hk => HA5.out k (Nat.le_trans HF2.out.size hk)
        have HB6 := Lib.hid hb6
        have hN2 : n2 ≤ 100000 := by omega
        have cH := HU2.out.held who s OKW.out OKS.out
        obtain ⟨hd, hhd⟩ : ∃ x, heldL D2.H who s = x := ⟨_, rfl⟩
        rw [hhd] at cH
        have HHD := Lib.hid hhd
        have HMO : Hid (ModeOk hd) := by
          have h9 : ModeOk hd := (by rw [← hhd]; exact heldL_ok HU2.out.ok.inv who s)
          exact h9
        clear hb6 x0 x1 x2 x3 x4 x5 hkd hhd HU HE
        go_wp2_with fail
        refine cH.mono ?_
        rintro e w6 ⟨rfl, hf6⟩
        have hb6 := HB6.out.fr hf6 (fun h => h)
        replace y1 : w6.cell? ⟨wo.heap.size, 1, none⟩ = some (.int .i64 who) := hb6.cell 1
        have cW := (HU2.out.fr0 hf6).waits who hN2 OKW.out
        clear hb6 cH y2 y3 y4
        cases hwi : wishL D2.W who with
        | some x =>
          rw [show waitsL D2 who = (x.s, x.m, true) by unfold waitsL; rw [hwi]] at cW
          clear hwi
          go_wp2_with fail
          refine cW.mono ?_
          rintro e w7 ⟨rfl, hf7⟩
          have hf8 := (hf6.trans0 hf7).alloc (.cells #[.int .i64 x.s.1, .bool x.s.2.1, .int .i64 x.s.2.2] 26)
          have HU8 := Lib.hid (HU2.out.fr0 hf8)
          have HF8 : Hid (Fr w (w7.alloc (.cells #[.int .i64 x.s.1, .bool x.s.2.1, .int .i64 x.s.2.2] 26)) Nil) := (low_back HF5.out HF2.out fun k h => h.1).trans0 hf8
          clear hf6 hf7 hf8 cW y1
          go_wp2_with fail
          go_roundw
          case rel => exact ⟨i + 1, n2, D2, by go_num, by omega, by omega, HU8.out.weak ata_low, HE2.out, HF8.out⟩
          case measure => simp [intOf]; omega
        | none =>
          rw [show waitsL D2 who = ((0, false, 0), 0, false) by unfold waitsL; rw [hwi]] at cW
          have HWI := Lib.hid hwi
          clear hwi
          go_wp2_with fail
          refine cW.mono ?_
          rintro e w7 ⟨rfl, hf7⟩
          have hf8 := (hf6.trans0 hf7).alloc (.cells #[.int .i64 0, .bool false, .int .i64 0] 26)
          have HU8 := Lib.hid (HU2.out.fr0 hf8)
          have HF8 := Lib.hid hf8
          have HF88 : Hid (Fr w (w7.alloc (.cells #[.int .i64 0, .bool false, .int .i64 0] 26)) Nil) := (low_back HF5.out HF2.out fun k h => h.1).trans0 hf8
          have HB8 := Lib.hid (HB6.out.fr hf8 (fun h => h))
          clear hf6 hf7 hf8 cW y1
          by_cases h0 : hd = 0
          · subst h0
            go_wp2_with fail
            go_roundw
            case rel => exact ⟨i + 1, n2, D2, by go_num, by omega, by omega, HU8.out.weak ata_low, HE2.out, HF88.out⟩
            case measure => simp [intOf]; omega
          · have h0' : (hd == 0) = false := by rw [beq_eq_false_iff_ne]; exact h0
            have HH0 := Lib.hid h0
            clear h0
            go_wp2_with fail
            obtain ⟨w8, hw8⟩ : ∃ w8, w7.alloc (.cells #[.int .i64 0, .bool false, .int .i64 0] 26) = w8 := ⟨_, rfl⟩
            rw [hw8] at HU8 HF8 HF88 HB8 ⊢
            clear hw8
            go_loopw [12] (fun vk wr => ∃ (k n3 : Nat), vk = .int .u8 (k : Int) ∧ 1 ≤ k ∧ k ≤ 6 ∧ n3 + 1 ≤ n2 + k ∧ Hid (LkU wr lb D2 n3 (3 + 4 * n3) (AtA w.heap.size wo.heap.size)) ∧ Hid (Fr w8 wr (AtA w.heap.size wo.heap.size))) (fun vk _ => 6 - (intOf vk).toNat)
            case atStart => exact ⟨1, n2, by go_num, by omega, by omega, by omega, HU8.out, Fr.refl _ _⟩
            case round =>
              obtain ⟨k, n3, rfl, hk1, hk6, hn3, HU3, HF3⟩ := hrel
              obtain ⟨wi, rfl⟩ : ∃ wi : World, wi = wr := ⟨_, rfl⟩
              by_cases hk5 : k ≤ 5
              · have hki : (k : Int) ≤ 5 := by omega
                have hk0 : (0 : Int) ≤ (k : Int) := by omega
                have hN3 : n3 ≤ 100000 := by omega
                have hK3 : 3 + 4 * n3 ≤ 1000000000 := by omega
                have HW8 := wrap8' hk0 (by omega)
                have cC := covs_any HMO.out (show ModeOk (k : Int) from ⟨hk0, hki⟩)
                unfold CovsAt at cC
                have hbi := HB8.out.fr HF3.out (fun h => h.2 rfl)
                have HBI := Lib.hid hbi
                have HAI : Hid (∀ k, wi.heap.size ≤ k → (AtA w.heap.size wo.heap.size) k) := fun k hk => HAc.out k (Nat.le_trans (Nat.le_trans HF8.out.size HF3.out.size) hk)
                obtain ⟨cv_, hcv⟩ : ∃ b, covM hd (k : Int) = b := ⟨_, rfl⟩
                rw [hcv] at cC
                have HCV := Lib.hid hcv
                have HKI := Lib.hid hki
                have HK0 := Lib.hid hk0
                clear hcv hbi
                go_wp2_with fail
                refine (cC _).mono ?_
                rintro e w9 ⟨rfl, hw9⟩
                subst hw9
                clear cC
                cases cv_ with
                | false =>
                  go_wp2_with fail
                  go_roundw
                  case rel => exact ⟨k + 1, n3, by go_num, by omega, by omega, by omega, HU3.out, HF3.out⟩
                  case measure => simp [intOf]; omega
                | true =>
                  have HASK : Hid (askL D2 who s (k : Int) = ((true, 0), D2)) := ask_again HE2.out HWI.out (by rw [HHD.out]; exact HH0.out) ⟨by omega, HKI.out⟩ (by rw [HHD.out]; exact HCV.out)
                  have z2 : ∀ w', KeptN w9 w' → w'.cell? ⟨wo.heap.size, 2, none⟩ = some (.int .i64 s.1) := KeptN.cell (HBI.out.cell 2)
                  have z3 : ∀ w', KeptN w9 w' → w'.cell? ⟨wo.heap.size, 3, none⟩ = some (.bool s.2.1) := KeptN.cell (HBI.out.cell 3)
                  have z4 : ∀ w', KeptN w9 w' → w'.cell? ⟨wo.heap.size, 4, none⟩ = some (.int .i64 s.2.2) := KeptN.cell (HBI.out.cell 4)
                  obtain ⟨us, hus⟩ : ∃ x, usedL D2 = x := ⟨_, rfl⟩
                  obtain ⟨ql, hql⟩ : ∃ x, prs (queueL D2.H D2.W s) = x := ⟨_, rfl⟩
                  obtain ⟨hl_, hhl⟩ : ∃ x, holdersL D2.H s = x := ⟨_, rfl⟩
                  have HUS := Lib.hid hus
                  have HQL := Lib.hid hql
                  have HHL := Lib.hid hhl
                  clear hus hql hhl
                  go_wp2_with fail
                  refine wp_region_sink 15 (KeptN w9) (by kernel_rfl) ?_
                  have hSa : KeptN w9 w9.drew := KeptN.start w9
                  refine tkA 0 hSa ?_
                  refine tkA 2 hSa ?_
                  refine tkA 3 hSa ?_
                  try simp only [Act.put, sA, sB, sC]
                  refine tkA 4 hSa ?_ (hy := by intro _ w; have cz2 := z2 _ w; have cz3 := z3 _ w; have cz4 := z4 _ w; go_simp <;> with_reducible rfl)
                  try simp only [Act.put, sA, sB, sC]
                  refine tkA 7 hSa ?_
                  refine tkA 8 hSa ?_
                  try simp only [Act.put, sA, sB, sC]
                  refine tkA 9 hSa ?_ (hy := by intro _ w; have cz2 := z2 _ w; have cz3 := z3 _ w; have cz4 := z4 _ w; go_simp <;> with_reducible rfl)
                  try simp only [Act.put, sA, sB, sC]
                  refine on1 1 fun K hK => ?_
                  go_simp
                  have cU := (HU3.out.fr0 hSa.fr).used hN3
                  rw [HUS.out] at cU
                  refine cU.mono ?_
                  rintro e wa ⟨rfl, hfa⟩
                  have hSb : KeptN w9 wa := hSa.next hfa
                  refine hK.out _ _ hSb ?_
                  clear hK K cU
                  try simp only [Act.put, sA, sB, sC]
                  refine on1 5 fun K hK => ?_
                  go_simp
                  have cQ := (HU3.out.fr0 hSb.fr).queue s hN3 OKS.out
                  rw [HQL.out] at cQ
                  refine cQ.mono ?_
                  rintro e wb ⟨vb, rfl, g1, g2, hfb⟩
                  obtain ⟨qa, qc, rfl⟩ := g1.shape
                  have hSc : KeptN w9 wb := hSb.next hfb
                  refine hK.out _ _ hSc ?_
                  clear hK K cQ g1 g2
                  try simp only [Act.put, sA, sB, sC]
                  refine tkA 6 hSc ?_
                  try simp only [Act.put, sA, sB, sC]
                  refine on1 10 fun K hK => ?_
                  go_simp
                  have cH := (HU3.out.fr0 hSc.fr).holders s hN3 OKS.out
                  rw [HHL.out] at cH
                  refine cH.mono ?_
                  rintro e wd ⟨vd, rfl, g1, g2, hfd⟩
                  obtain ⟨ha_, hc_, rfl⟩ := g1.shape
                  have hSd : KeptN w9 wd := hSc.next hfd
                  refine hK.out _ _ hSd ?_
                  clear hK K cH g1 g2
                  try simp only [Act.put, sA, sB, sC]
                  refine tkA 11 hSd ?_
                  refine tkA 12 hSd ?_
                  refine tkA 13 hSd ?_
                  refine tkA 14 hSd ?_
                  try simp only [Act.put, sA, sB, sC]
                  refine wpAnyS_done (by kernel_rfl) ?_
                  have HSD := Lib.hid hSd.fr
                  clear hSa hSb hSc hSd hfa hfb hfd z2 z3 z4
                  have hbd := HBI.out.fr HSD.out (fun h => h)
                  have y1 : wd.cell? ⟨wo.heap.size, 1, none⟩ = some (.int .i64 who) := hbd.cell 1
                  have y2 : wd.cell? ⟨wo.heap.size, 2, none⟩ = some (.int .i64 s.1) := hbd.cell 2
                  have y3 : wd.cell? ⟨wo.heap.size, 3, none⟩ = some (.bool s.2.1) := hbd.cell 3
                  have y4 : wd.cell? ⟨wo.heap.size, 4, none⟩ = some (.int .i64 s.2.2) := hbd.cell 4
                  have HBD := Lib.hid hbd
                  have cA := (HU3.out.fr0 HSD.out).ask (fun k hk => HAI.out k (Nat.le_trans HSD.out.size hk)) who s (k : Int) hN3 hK3 OKW.out OKS.out HK0.out
                  rw [HASK.out] at cA
                  clear hbd
                  go_wp2_with fail
                  refine cA.mono ?_
                  rintro e we ⟨rfl, hU, hfe⟩
                  have HUe := Lib.hid hU
                  have HFe := Lib.hid hfe
                  have hbe := HBD.out.fr hfe (fun h => h.2 rfl)
                  have HBE := Lib.hid hbe
                  replace y1 : we.cell? ⟨wo.heap.size, 1, none⟩ = some (.int .i64 who) := hbe.cell 1
                  replace y2 : we.cell? ⟨wo.heap.size, 2, none⟩ = some (.int .i64 s.1) := hbe.cell 2
                  replace y3 : we.cell? ⟨wo.heap.size, 3, none⟩ = some (.bool s.2.1) := hbe.cell 3
                  replace y4 : we.cell? ⟨wo.heap.size, 4, none⟩ = some (.int .i64 s.2.2) := hbe.cell 4
                  have cH := HUe.out.held who s OKW.out OKS.out
                  rw [HHD.out] at cH
                  clear cA hU hfe hbe
                  go_wp2_with fail
                  refine cH.mono ?_
                  rintro e wf ⟨rfl, hff⟩
                  have HUf := Lib.hid (HUe.out.fr0 hff)
                  have HFf := Lib.hid hff
                  have cU := HUf.out.used (by omega)
                  rw [HUS.out] at cU
                  clear cH hff y1 y2 y3 y4
                  go_wp2_with fail
                  refine cU.mono ?_
                  rintro e wg ⟨rfl, hfg⟩
                  have HUg := Lib.hid (HUf.out.fr0 hfg)
                  have HFg := Lib.hid (HFf.out.trans0 hfg)
                  have hbg := HBE.out.fr HFg.out (fun h => h)
                  have y2 : wg.cell? ⟨wo.heap.size, 2, none⟩ = some (.int .i64 s.1) := hbg.cell 2
                  have y3 : wg.cell? ⟨wo.heap.size, 3, none⟩ = some (.bool s.2.1) := hbg.cell 3
                  have y4 : wg.cell? ⟨wo.heap.size, 4, none⟩ = some (.int .i64 s.2.2) := hbg.cell 4
                  have cQ := HUg.out.queue s (by omega) OKS.out
                  rw [HQL.out] at cQ
                  clear cU hfg hbg
                  go_wp2_with fail
                  refine cQ.mono ?_
                  rintro e wh ⟨vh, rfl, g1, g2, hfh⟩
                  obtain ⟨qa2, qc2, rfl⟩ := g1.shape
                  have HUh := Lib.hid (HUg.out.fr0 hfh)
                  have HFh := Lib.hid (HFg.out.trans0 hfh)
                  have hbh := HBE.out.fr HFh.out (fun h => h)
                  replace y2 : wh.cell? ⟨wo.heap.size, 2, none⟩ = some (.int .i64 s.1) := hbh.cell 2
                  replace y3 : wh.cell? ⟨wo.heap.size, 3, none⟩ = some (.bool s.2.1) := hbh.cell 3
                  replace y4 : wh.cell? ⟨wo.heap.size, 4, none⟩ = some (.int .i64 s.2.2) := hbh.cell 4
                  have cH := HUh.out.holders s (by omega) OKS.out
                  rw [HHL.out] at cH
                  clear cQ hfh hbh g1 g2
                  go_wp2_with fail
                  refine cH.mono ?_
                  rintro e wj ⟨vj, rfl, g1, g2, hfj⟩
                  obtain ⟨ha2, hc2, rfl⟩ := g1.shape
                  have HUj := Lib.hid (HUh.out.fr0 hfj)
                  have HFj : Hid (Fr w8 wj (AtA w.heap.size wo.heap.size)) := ((HF3.out.trans HSD.out.of_nil fun _ _ h => h).trans HFe.out fun _ _ h => h).trans ((HFh.out.trans0 hfj).of_nil) fun _ _ h => h
                  clear cH hfj g1 g2 y2 y3 y4
                  go_wp2_with fail
                  go_roundw
                  case rel => exact ⟨k + 1, n3 + 1, by go_num, by omega, by omega, by omega, (HUj.out.more (Nat.le_refl _) (by omega)), HFj.out⟩
                  case measure => simp [intOf]; omega
              · obtain rfl : k = 6 := by omega
                have HFe : Hid (Fr w wi Nil) := HF88.out.trans HF3.out fun k hk h => by have := h.1; omega
                go_wp2_with fail
                go_roundw
                case rel => exact ⟨i + 1, n3, D2, by go_num, by omega, by omega, HU3.out.weak ata_low, HE2.out, HFe.out⟩
                case measure => simp [intOf]; omega
    · obtain rfl : i = l.length := by omega
      go_wp2_with fail
      refine (works_any wo).mono ?_
      rintro e w9 ⟨rfl, hf9⟩
      have HF9 := Lib.hid (HFR.out.trans0 hf9)
      clear hf9
      go_wp2_with fail
      go_ret
      exact ⟨rfl, HF9.out⟩
set_option maxHeartbeats 1000000 in
theorem lagain_any (hc : KCallsAt w cv l) :
    Calls Try.prog 7 #[.int .i64 most, cv] w fun e w' => e = .returned (.bool true) ∧ Fr w w' Nil := by
  by_cases hl : l.length ≤ 60
  · exact lagain_main most cv l w hc hl
  · obtain ⟨ca, cc, rfl, hcc⟩ := hc.shape
    have h1 : (60 : Int) < (l.length : Int) := by omega
    clear hc hl
    go_enter Try.func7, Try.ntmps7
    go_wp2_with fail
    refine (works_any _).mono ?_
    rintro e w9 ⟨rfl, hf9⟩
    have HF9 := Lib.hid hf9
    clear hf9
    go_wp2_with fail
    go_ret
    exact ⟨rfl, HF9.out⟩
end
end Go.Proofs.Ytecffdgnmnpmbaa
