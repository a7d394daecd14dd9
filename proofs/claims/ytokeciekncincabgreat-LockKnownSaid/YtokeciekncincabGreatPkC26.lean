/-
  Walk of Ask.
  No condition but sizes.
-/
import Derived.Test.YtokeciekncincabGreatPkC17
import Derived.Test.YtokeciekncincabGreatPkC8
import Derived.Test.YtokeciekncincabGreatPkC7
import Derived.Test.YtokeciekncincabGreatPkC16
import Derived.Deep.CutBlock
namespace Go.Proofs.YtokeciekncincabGreat
open Go Go.RowKit Go.Maps

/-- Where a spot lies, and what is asked for it. -/
def AskAt (w0 : World) (a6 lb sb wb : Nat) (D : LkS) (S : Nat → Prop) (s : Spot) (who j : Int) (v13 v14 : Value) (wx : World) : Prop :=
  ∃ G g S' x, v13 = xptr g.xb ∧ v14 = .pointer (some ⟨x, 0, none⟩) ∧ LkV wx lb sb wb D (pairsW D.W) G S' ∧ (s, g) ∈ G ∧ Bk wx x 67 [.int .i64 who, .int .u8 j] ∧ ¬ S' x ∧ Fr w0 wx S ∧ (∀ k, S k → S' k) ∧ (∀ k, S' k → S k ∨ w0.heap.size ≤ k) ∧ (∀ K, Few S K → Few S' (K + 2)) ∧ Bk wx a6 30 [.int .i64 s.1, .bool s.2.1, .int .i64 s.2.2] ∧ ¬ S' a6
/-- The spot lies. -/
def LaidAt (w0 : World) (a6 lb sb wb : Nat) (D : LkS) (S : Nat → Prop) (s : Spot) (wx : World) : Prop :=
  ∃ G g S', LkV wx lb sb wb D (pairsW D.W) G S' ∧ (s, g) ∈ G ∧ Fr w0 wx S ∧ (∀ k, S k → S' k) ∧ (∀ k, S' k → S k ∨ w0.heap.size ≤ k) ∧ (∀ K, Few S K → Few S' (K + 2)) ∧ Bk wx a6 30 [.int .i64 s.1, .bool s.2.1, .int .i64 s.2.2] ∧ ¬ S' a6
set_option maxRecDepth 100000 in
set_option maxHeartbeats 8000000 in
theorem ask_any {lb : Nat} {D : LkS} {S : Nat → Prop} {N : Nat} (who : Int) (s : Spot) (m : Int) (w : World) (h : LkA w lb D S) (hD : DOk N D) (hN : N ≤ 100000) (hw : (Lit.int .i64 who).wf = true) (hs : SWf s) (hm : 0 ≤ m) {K0 : Nat} (hG : Few S K0) (hK0 : K0 ≤ 1000000000) :
    Calls Tryz.prog 10 #[lkp lb, .int .i64 who, spV s, .int .u8 m] w (AskRet lb (askL D who s m) S w) := by
  have hlt := h.lt
  obtain ⟨sb, wb, G, hv⟩ := h
  obtain ⟨w0, hw0⟩ : ∃ w0, w.alloc (.cells #[.int .i64 s.1, .bool s.2.1, .int .i64 s.2.2] 30) = w0 := ⟨_, rfl⟩
  have hf0 : Fr w w0 Nil := by rw [← hw0]; exact (Fr.refl w Nil).alloc _
  have hb6 : Bk w0 w.heap.size 30 [.int .i64 s.1, .bool s.2.1, .int .i64 s.2.2] := by rw [← hw0]; exact Bk.new w _ _
  have hv0 := hv.fr0 hf0
  have cH := held_any (lb := lb) (D := D) (S := S) who s w0 ⟨sb, wb, G, hv0⟩ hw hs
  have p0 : w0.cell? ⟨w.heap.size, 0, none⟩ = some (.int .i64 s.1) := hb6.cell 0
  have p1 : w0.cell? ⟨w.heap.size, 1, none⟩ = some (.bool s.2.1) := hb6.cell 1
  have p2 : w0.cell? ⟨w.heap.size, 2, none⟩ = some (.int .i64 s.2.2) := hb6.cell 2
  obtain ⟨R, hR⟩ : ∃ R, askL D who s m = R := ⟨_, rfl⟩
  rw [hR]
  have HR := Lib.hid hR
  have HV := Lib.hid hv
  have HF0 := Lib.hid hf0
  have HB6 := Lib.hid hb6
  have HD := Lib.hid hD
  have HW := Lib.hid hw
  have HN := Lib.hid hN
  have HS := Lib.hid hs
  have HM := Lib.hid hm
  have HLT := Lib.hid hlt
  have HGL := Lib.hid (hv.few hG)
  have HK0 := Lib.hid hK0
  have HFEW := Lib.hid hG
  have HHO := Lib.hid (heldL_ok hD.inv who s)
  obtain ⟨hd, hhd⟩ : ∃ x, heldL D.H who s = x := ⟨_, rfl⟩
  rw [hhd] at cH HHO
  have HHD := Lib.hid hhd
  clear hG hK0 hR hv hf0 hb6 hD hw hN hs hm hlt hv0 hhd
  go_enter Tryz.func10, Tryz.ntmps10
  go_wp2_with fail
  refine cH.mono ?_
  rintro e w1 ⟨rfl, hf1⟩
  have hv1 := HV.out.fr0 (HF0.out.trans0 hf1)
  have hlk := look_wait hv1.waits HW.out
  have q2 : w1.cell? ⟨lb, 2, none⟩ = some (.map (some wb)) := hv1.root.cell 2
  have hwish : ((pairsW D.W).map Prod.fst).contains who = (wishL D.W who).isSome := by
    cases hwi : wishL D.W who with
    | none => exact wish_pairs.1 hwi
    | some x => exact (wish_pairs.2 x hwi).1
  rw [hwish] at hlk
  obtain ⟨iw, hiw⟩ : ∃ b, (wishL D.W who).isSome = b := ⟨_, rfl⟩
  rw [hiw] at hlk
  obtain ⟨gv, hgv⟩ : ∃ x, getV (pairsW D.W) who (0, false, 0) = x := ⟨_, rfl⟩
  rw [hgv] at hlk
  have HIW := Lib.hid hiw
  obtain ⟨w2, hw2⟩ : ∃ w2, w1.alloc (.cells #[.int .i64 gv.1, .bool gv.2.1, .int .i64 gv.2.2] 30) = w2 := ⟨_, rfl⟩
  have hf2 : Fr w1 w2 Nil := by rw [← hw2]; exact (Fr.refl w1 Nil).alloc _
  have hb62 := HB6.out.fr (hf1.trans0 hf2) (fun h => h)
  have HG2 := Lib.hid (hf1.trans0 hf2)
  have cM := may_any (s := s) HM.out w2
  obtain ⟨my, hmy⟩ : ∃ b, mayL s m = b := ⟨_, rfl⟩
  rw [hmy] at cM
  have HMY := Lib.hid hmy
  clear p0 p1 p2
  have p0 : w2.cell? ⟨w.heap.size, 0, none⟩ = some (.int .i64 s.1) := hb62.cell 0
  have p1 : w2.cell? ⟨w.heap.size, 1, none⟩ = some (.bool s.2.1) := hb62.cell 1
  have p2 : w2.cell? ⟨w.heap.size, 2, none⟩ = some (.int .i64 s.2.2) := hb62.cell 2
  clear cH hf1 hv1 hwish hiw hgv hf2 hb62 hmy
  go_wp2_with fail
  refine cM.mono ?_
  rintro e w3 ⟨rfl, hf3⟩
  have HG3 := Lib.hid (HG2.out.trans0 hf3)
  have HF3 := Lib.hid (HF0.out.trans0 HG3.out)
  clear cM q2 hlk p0 p1 p2 hf3
  cases my with
  | false =>
    have hr : R = ((false, 2), D) := by rw [← HR.out]; unfold askL; rw [if_pos HMY.out]
    subst hr
    go_wp2_with fail
    go_ret2
    exact ⟨S, rfl, ⟨sb, wb, G, HV.out.fr0 HF3.out⟩, fun _ h => h, fun _ h => .inl h, fun _ hK => hK.more (by omega), HF3.out.of_nil⟩
  | true =>
    have hmm : ModeOk m ∧ m ≠ 0 := by
      have h1 := HMY.out
      unfold mayL at h1
      simp only [Bool.and_eq_true, decide_eq_true_eq, bne_iff_ne] at h1
      exact ⟨⟨h1.1.1.1.1, h1.1.1.1.2⟩, h1.1.1.2⟩
    have HMM := Lib.hid hmm
    have cC := covers_any HHO.out hmm.1 w3
    obtain ⟨cv, hcv⟩ : ∃ b, covM hd m = b := ⟨_, rfl⟩
    rw [hcv] at cC
    have HCV := Lib.hid hcv
    clear hmm hcv
    cases iw with
    | true =>
      have hr : R = ((false, 4), D) := by rw [← HR.out]; unfold askL; rw [if_neg (by rw [HMY.out]; decide), if_pos HIW.out]
      subst hr
      clear cC
      go_wp2_with fail
      go_ret2
      exact ⟨S, rfl, ⟨sb, wb, G, HV.out.fr0 HF3.out⟩, fun _ h => h, fun _ h => .inl h, fun _ hK => hK.more (by omega), HF3.out.of_nil⟩
    | false =>
      go_wp2_with fail
      refine cC.mono ?_
      rintro e w3' ⟨rfl, rfl⟩
      clear cC
      cases cv with
      | true =>
        have hr : R = ((true, 0), D) := by rw [← HR.out]; unfold askL; rw [if_neg (by rw [HMY.out]; decide), if_neg (by rw [HIW.out]; decide), HHD.out, if_pos HCV.out]
        subst hr
        go_wp2_with fail
        go_ret2
        exact ⟨S, rfl, ⟨sb, wb, G, HV.out.fr0 HF3.out⟩, fun _ h => h, fun _ h => .inl h, fun _ hK => hK.more (by omega), HF3.out.of_nil⟩
      | false =>
        go_upto_region 11 with fail
        obtain ⟨n, hn⟩ : ∃ n, usedL D = n := ⟨_, rfl⟩
        have cU := used_any (w := w3'.drew) (lb := lb) (S := S) ⟨sb, wb, G, (HV.out.fr0 HF3.out).fr0 (Fr.refl w3' Nil).drew⟩ HD.out HN.out
        rw [hn] at cU
        have HUN := Lib.hid hn
        obtain ⟨fu, hfu⟩ : ∃ b, decide (hd = 0 ∧ D.most ≤ (n : Int)) = b := ⟨_, rfl⟩
        have HFU := Lib.hid hfu
        clear hn hfu
        go_cut [42] from 43 to 53 (fun v42 wx => v42 = .bool fu ∧ Fr w3' wx Nil)
        case first =>
          have hSa : KeptN w3' w3'.drew := KeptN.start w3'
          by_cases h0 : hd = 0
          · subst h0
            have k0 : ∀ w', KeptN w3' w' → w'.cell? ⟨lb, 0, none⟩ = some (.int .i64 D.most) := KeptN.cell ((HV.out.fr0 HF3.out).root.cell 0)
            refine wp_region_sink 11 (KeptN w3') (by kernel_rfl) ?_
            refine tk 0 hSa ?_
            refine tk 1 hSa ?_
            refine tk 2 hSa ?_
            refine tk 3 hSa ?_
            refine tk 5 hSa ?_
            refine tk 6 hSa ?_
            refine tk 7 hSa ?_
            try simp only [Act.put, sA, sB, sC]
            refine tk 8 hSa ?_ (hy := by intro _ w; have ck0 := k0 _ w; go_simp <;> with_reducible rfl)
            try simp only [Act.put, sA, sB, sC]
            refine on1 4 fun K hK => ?_
            go_simp
            refine cU.mono ?_
            rintro e w4 ⟨rfl, hf4⟩
            have hSb : KeptN w3' w4 := hSa.next hf4
            refine hK.out _ _ hSb ?_
            clear hK K
            try simp only [Act.put, sA, sB, sC]
            refine tk 9 hSb ?_
            refine tk 10 hSb ?_
            try simp only [Act.put, sA, sB, sC]
            refine wpAnyS_last (i := 11) rfl (by kernel_rfl) (by decide) (by kernel_rfl) (by rfl) fun K hK => ?_
            go_simp
            refine hK.out _ _ ?_
            clear hK K
            go_wp2_with fail
            go_meet
            refine ⟨?_, hSb.fr⟩
            rw [← HFU.out]
            simp
          · have kb : ∀ w', KeptN w3' w' → (hd == 0) = false := fun _ _ => by rw [beq_eq_false_iff_ne]; exact h0
            refine wp_region_sink 11 (KeptN w3') (by kernel_rfl) ?_
            refine tk 0 hSa ?_
            try simp only [Act.put, sA, sB, sC]
            refine tk 1 hSa ?_ (hy := by intro _ w; have ckb := kb _ w; go_simp <;> with_reducible rfl)
            try simp only [Act.put, sA, sB, sC]
            refine tk 2 hSa ?_
            try simp only [Act.put, sA, sB, sC]
            refine wpAnyS_skip (i := 3) rfl (by kernel_rfl) (fun _ _ _ h => h) (by rfl) hSa ?_
            try simp only [Act.put, sA, sB, sC]
            refine wpAnyS_skip (i := 4) rfl (by kernel_rfl) (fun _ _ _ h => h) (by rfl) hSa ?_
            try simp only [Act.put, sA, sB, sC]
            refine wpAnyS_skip (i := 5) rfl (by kernel_rfl) (fun _ _ _ h => h) (by rfl) hSa ?_
            try simp only [Act.put, sA, sB, sC]
            refine wpAnyS_skip (i := 6) rfl (by kernel_rfl) (fun _ _ _ h => h) (by rfl) hSa ?_
            try simp only [Act.put, sA, sB, sC]
            refine wpAnyS_skip (i := 7) rfl (by kernel_rfl) (fun _ _ _ h => h) (by rfl) hSa ?_
            try simp only [Act.put, sA, sB, sC]
            refine wpAnyS_skip (i := 8) rfl (by kernel_rfl) (fun _ _ _ h => h) (by rfl) hSa ?_
            try simp only [Act.put, sA, sB, sC]
            refine wpAnyS_skip (i := 9) rfl (by kernel_rfl) (fun _ _ _ h => h) (by rfl) hSa ?_
            try simp only [Act.put, sA, sB, sC]
            refine tk 10 hSa ?_
            try simp only [Act.put, sA, sB, sC]
            refine wpAnyS_last (i := 11) rfl (by kernel_rfl) (by decide) (by kernel_rfl) (by rfl) fun K hK => ?_
            go_simp
            refine hK.out _ _ ?_
            clear hK K
            go_wp2_with fail
            go_meet
            refine ⟨?_, hSa.fr⟩
            rw [← HFU.out]
            simp [h0]
        case rest =>
          obtain ⟨rfl, hf5⟩ := hcut
          have HG5 := Lib.hid (HG3.out.trans0 hf5)
          have HF5 := Lib.hid (HF0.out.trans0 HG5.out)
          clear cU hf5
          cases fu with
          | true =>
            have hfu2 : hd = 0 ∧ D.most ≤ (n : Int) := of_decide_eq_true HFU.out
            have hr : R = ((false, 3), D) := by rw [← HR.out]; unfold askL; rw [if_neg (by rw [HMY.out]; decide), if_neg (by rw [HIW.out]; decide), HHD.out, if_neg (by rw [HCV.out]; decide), HUN.out, if_pos hfu2]
            subst hr
            clear hfu2
            go_wp2_with fail
            go_ret2
            exact ⟨S, rfl, ⟨sb, wb, G, HV.out.fr0 HF5.out⟩, fun _ h => h, fun _ h => .inl h, fun _ hK => hK.more (by omega), HF5.out.of_nil⟩
          | false =>
            go_upto_region 13 with fail
            have hvc := HV.out.fr0 HF5.out
            have hbc := HB6.out.fr HG5.out (fun h => h)
            have k1 : ∀ w', KeptN wc w' → w'.cell? ⟨lb, 1, none⟩ = some (.map (some sb)) := KeptN.cell (hvc.root.cell 1)
            have k2 : ∀ w', KeptN wc w' → w'.cell? ⟨w.heap.size, 0, none⟩ = some (.int .i64 s.1) := KeptN.cell (hbc.cell 0)
            have k3 : ∀ w', KeptN wc w' → w'.cell? ⟨w.heap.size, 1, none⟩ = some (.bool s.2.1) := KeptN.cell (hbc.cell 1)
            have k4 : ∀ w', KeptN wc w' → w'.cell? ⟨w.heap.size, 2, none⟩ = some (.int .i64 s.2.2) := KeptN.cell (hbc.cell 2)
            have HVC := Lib.hid hvc
            have HBC := Lib.hid hbc
            clear hvc hbc
            go_cut [60] from 54 to 60 (fun v60 wx => ((v60 = .bool false ∧ ∃ g, (s, g) ∈ G) ∨ (v60 = .bool true ∧ ∀ p ∈ G, p.1 ≠ s)) ∧ Fr wc wx Nil)
            case first =>
              have hSa : KeptN wc wc.drew := KeptN.start wc
              by_cases hin : ∃ g, (s, g) ∈ G
              · obtain ⟨g, hg⟩ := hin
                have k5 : ∀ w', KeptN wc w' → (Instr.lookup 56 (.map (some sb)) (.agg #[.int .i64 s.1, .bool s.2.1, .int .i64 s.2.2]) false).run Tryz.prog w' = .ok (xptr g.xb) w' := fun w' hk' => look_spot_in (HVC.out.fr0 hk').spots HS.out hg
                refine wp_region_sink 6 (KeptN wc) (by kernel_rfl) ?_
                refine tk 0 hSa ?_
                refine tk 1 hSa ?_
                refine tk 2 hSa ?_
                try simp only [Act.put, sA, sB, sC]
                refine tk 3 hSa ?_ (hy := by intro _ w; have ck1 := k1 _ w; go_simp <;> with_reducible rfl)
                try simp only [Act.put, sA, sB, sC]
                refine tk 4 hSa ?_ (hy := by intro _ w; have ck2 := k2 _ w; have ck3 := k3 _ w; have ck4 := k4 _ w; go_simp <;> with_reducible rfl)
                try simp only [Act.put, sA, sB, sC]
                refine tk 5 hSa ?_ (hy := by intro _ w; have ck5 := k5 _ w; go_simp <;> with_reducible rfl)
                try simp only [Act.put, sA, sB, sC]
                refine wpAnyS_last (i := 6) rfl (by kernel_rfl) (by decide) (by kernel_rfl) (by rfl) fun K hK => ?_
                go_simp
                refine hK.out _ _ ?_
                clear hK K
                go_wp2_with fail
                go_meet
                exact ⟨.inl ⟨rfl, g, hg⟩, hSa.fr⟩
              · have hno : ∀ p ∈ G, p.1 ≠ s := fun p hp e => hin ⟨p.2, by rw [← e]; exact hp⟩
                have k5 : ∀ w', KeptN wc w' → (Instr.lookup 56 (.map (some sb)) (.agg #[.int .i64 s.1, .bool s.2.1, .int .i64 s.2.2]) false).run Tryz.prog w' = .ok (.pointer none) w' := fun w' hk' => look_spot_out (HVC.out.fr0 hk').spots HS.out hno
                refine wp_region_sink 6 (KeptN wc) (by kernel_rfl) ?_
                refine tk 0 hSa ?_
                refine tk 1 hSa ?_
                refine tk 2 hSa ?_
                try simp only [Act.put, sA, sB, sC]
                refine tk 3 hSa ?_ (hy := by intro _ w; have ck1 := k1 _ w; go_simp <;> with_reducible rfl)
                try simp only [Act.put, sA, sB, sC]
                refine tk 4 hSa ?_ (hy := by intro _ w; have ck2 := k2 _ w; have ck3 := k3 _ w; have ck4 := k4 _ w; go_simp <;> with_reducible rfl)
                try simp only [Act.put, sA, sB, sC]
                refine tk 5 hSa ?_ (hy := by intro _ w; have ck5 := k5 _ w; go_simp <;> with_reducible rfl)
                try simp only [Act.put, sA, sB, sC]
                refine wpAnyS_last (i := 6) rfl (by kernel_rfl) (by decide) (by kernel_rfl) (by rfl) fun K hK => ?_
                go_simp
                refine hK.out _ _ ?_
                clear hK K
                go_wp2_with fail
                go_meet
                exact ⟨.inr ⟨rfl, hno⟩, hSa.fr⟩
            case rest =>
              obtain ⟨hcase, hf6⟩ := hcut
              have HC := Lib.hid hcase
              clear k1 k2 k3 k4 hcase
              have HG6 := Lib.hid (HG5.out.trans0 hf6)
              have HF6 := Lib.hid (HF0.out.trans0 HG6.out)
              clear hf6
              go_upto_if 60 with fail
              go_cut [] from 61 to 68 (fun wx => LaidAt w w.heap.size lb sb wb D S s wx)
              case first =>
                rcases HC.out with ⟨rfl, g, hg⟩ | ⟨rfl, hno⟩
                · go_wp2_with fail
                  go_meet
                  exact ⟨G, g, S, HV.out.fr0 HF6.out, hg, HF6.out.of_nil, fun _ h => h, fun _ h => .inl h, fun _ hK => hK.more (by omega), HB6.out.fr HG6.out (fun h => h), fun h => by have := HLT.out _ h; omega⟩
                · have hv6 := HV.out.fr0 HF6.out
                  have hb66 := HB6.out.fr HG6.out (fun h => h)
                  have k1 : ∀ w', KeptN wc w' → w'.cell? ⟨lb, 1, none⟩ = some (.map (some sb)) := KeptN.cell (hv6.root.cell 1)
                  have k2 : ∀ w', KeptN wc w' → w'.cell? ⟨w.heap.size, 0, none⟩ = some (.int .i64 s.1) := KeptN.cell (hb66.cell 0)
                  have k3 : ∀ w', KeptN wc w' → w'.cell? ⟨w.heap.size, 1, none⟩ = some (.bool s.2.1) := KeptN.cell (hb66.cell 1)
                  have k4 : ∀ w', KeptN wc w' → w'.cell? ⟨w.heap.size, 2, none⟩ = some (.int .i64 s.2.2) := KeptN.cell (hb66.cell 2)
                  have HV6 := Lib.hid hv6
                  have HB66 := Lib.hid hb66
                  clear hv6 hb66
                  go_wp2_with fail
                  refine wp_region_sink 8 (KeptN wc) (by kernel_rfl) ?_
                  have hSa : KeptN wc wc.drew := KeptN.start wc
                  refine tk 0 hSa ?_
                  refine tk 1 hSa ?_
                  refine tk 2 hSa ?_
                  try simp only [Act.put, sA, sB, sC]
                  refine tk 3 hSa ?_ (hy := by intro _ w; have ck1 := k1 _ w; go_simp <;> with_reducible rfl)
                  try simp only [Act.put, sA, sB, sC]
                  refine tk 4 hSa ?_ (hy := by intro _ w; have ck2 := k2 _ w; have ck3 := k3 _ w; have ck4 := k4 _ w; go_simp <;> with_reducible rfl)
                  try simp only [Act.put, sA, sB, sC]
                  have hmm := @run_makeMap Tryz.prog
                  refine on1 5 fun K hK => ?_
                  go_simp
                  have hSb : KeptN wc (wc.alloc (.map #[] 0)).drew := ((Fr.refl wc Nil).alloc _).drew
                  refine hK.out _ _ hSb ?_
                  clear hK K hmm
                  try simp only [Act.put, sA, sB, sC]
                  refine tk 6 hSb ?_
                  try simp only [Act.put, sA, sB, sC]
                  have hmp := (MapAt.made wc Tryz.prog 2 ikey modV).fr0 (Fr.refl _ Nil).drew
                  obtain ⟨hb, hhb⟩ : ∃ x, wc.heap.size = x := ⟨_, rfl⟩
                  have hbl : wc.heap.size ≤ hb := by rw [← hhb]; exact Nat.le_refl _
                  rw [hhb] at hmp
                  obtain ⟨wm, hwm⟩ : ∃ wm, (wc.alloc (.map #[] 0)).drew = wm := ⟨_, rfl⟩
                  rw [hwm] at hmp hSb ⊢
                  try rw [hhb]
                  refine on1 7 fun K hK => ?_
                  go_simp
                  have hbx := Bk.new wm 74 #[.map (some hb), .slice none 0 0, .slice none 0 0]
                  have hfx : Fr wm (wm.alloc (.cells #[.map (some hb), .slice none 0 0, .slice none 0 0] 74)) Nil := (Fr.refl _ Nil).alloc _
                  have hSc : KeptN wc (wm.alloc (.cells #[.map (some hb), .slice none 0 0, .slice none 0 0] 74)) := hSb.next hfx
                  refine hK.out _ _ hSc ?_
                  clear hK K
                  try simp only [Act.put, sA, sB, sC]
                  have hkl : G.length < maxLen := by unfold maxLen; have := HGL.out; have := HK0.out; omega
                  refine wpAnyS_last (i := 8) rfl (by kernel_rfl) (by decide) (by kernel_rfl) (by rfl) fun K hK => ?_
                  refine wp_map_set _ _ _ _ 56 rfl 30 71 Tryz.keySpot Tryz.underlying56 spotKey sb G hkl rfl ((HV6.out.fr0 hSc.fr).spots) _ s rfl (keySpot HS.out) (⟨wm.heap.size, hb, .slice none 0 0, .slice none 0 0⟩ : GX) rfl ?_
                  intro w7 hm7 hf7
                  refine hK.out _ _ ?_
                  clear hK K
                  have hfl : (G.filter fun p => !decide (p.1 = s)) = G := List.filter_eq_self.2 fun p hp => by simpa using hno p hp
                  rw [hfl] at hm7
                  have hsb := HV6.out.lt _ HV6.out.inS
                  have hwz := hSb.fr.size
                  have hxh : XAt w7 ⟨wm.heap.size, hb, .slice none 0 0, .slice none 0 0⟩ [] [] [] := ⟨hbx.fr hf7 (fun e => by have e2 : wm.heap.size = sb := e; omega), (hmp.fr0 hfx).fr hf7 (fun e => by have e2 : hb = sb := e; omega), OwnH.nil _, OwnH.nil _, fun k hk => by cases hk⟩
                  have hf67 : Fr wc w7 (fun k => k = sb) := (hSc.fr.of_nil).trans hf7 fun _ _ h => h
                  have hown : ∀ k, (⟨wm.heap.size, hb, .slice none 0 0, .slice none 0 0⟩ : GX).own k → k = wm.heap.size ∨ k = hb := by
                    rintro k (h | h | h | h)
                    · exact .inl h
                    · exact .inr h
                    · cases h
                    · cases h
                  have hlay := LkG.lay HV6.out hno HS.out hm7 hf67 hxh fun k hk => by rcases hown k hk with rfl | rfl <;> omega
                  have hsz0 := HB6.out.lt
                  have hsz6 := HG6.out.size
                  go_wp2_with fail
                  go_meet
                  refine ⟨_, _, _, hlay, List.mem_append.2 (.inr (List.mem_singleton.2 rfl)), (HF6.out.of_nil (S := S)).trans hf67 fun k _ e => by rw [e]; exact HV6.out.inS, fun _ h => .inl h, fun k hk => ?_, fun K hK => ((hK.one wm.heap.size).one hb).sub fun k hk => ?_, HB66.out.fr hf67 (fun e => by have e2 : w.heap.size = sb := e; have := HLT.out _ HV6.out.inS; omega), ?_⟩
                  · exact hk.imp id fun hk => by rcases hown k hk with rfl | rfl <;> omega
                  · exact hk.elim (fun h => .inl (.inl h)) fun hk => (hown k hk).elim (fun h => .inl (.inr h)) .inr
                  · rintro (h | h)
                    · have := HLT.out _ h; omega
                    · rcases hown _ h with h | h <;> omega
              case rest =>
                obtain ⟨G1, g, S1, hv1, hg1, hf7, hs1, hs2, hs3, hb7, hn7⟩ := hcut
                have hx1 := hv1.at_ _ hg1
                have k1 : ∀ w', KeptN wc w' → w'.cell? ⟨lb, 1, none⟩ = some (.map (some sb)) := KeptN.cell (hv1.root.cell 1)
                have k2 : ∀ w', KeptN wc w' → w'.cell? ⟨w.heap.size, 0, none⟩ = some (.int .i64 s.1) := KeptN.cell (hb7.cell 0)
                have k3 : ∀ w', KeptN wc w' → w'.cell? ⟨w.heap.size, 1, none⟩ = some (.bool s.2.1) := KeptN.cell (hb7.cell 1)
                have k4 : ∀ w', KeptN wc w' → w'.cell? ⟨w.heap.size, 2, none⟩ = some (.int .i64 s.2.2) := KeptN.cell (hb7.cell 2)
                have k5 : ∀ w', KeptN wc w' → (Instr.lookup 56 (.map (some sb)) (.agg #[.int .i64 s.1, .bool s.2.1, .int .i64 s.2.2]) false).run Tryz.prog w' = .ok (xptr g.xb) w' := fun w' hk' => look_spot_in (hv1.fr0 hk').spots HS.out hg1
                have HV1 := Lib.hid hv1
                have HG1 := Lib.hid hg1
                have HF7 := Lib.hid hf7
                have HS1 := Lib.hid hs1
                have HS2 := Lib.hid hs2
                have HS3 := Lib.hid hs3
                have HB7 := Lib.hid hb7
                have HN7 := Lib.hid hn7
                obtain ⟨j, hj⟩ : ∃ j, joinM hd m = j := ⟨_, rfl⟩
                have HJ := Lib.hid hj
                have HEND : Hid (∀ W x, Fr wc W Nil → Bk W x 67 [.int .i64 0, .int .u8 0] → wc.heap.size ≤ x → AskAt w w.heap.size lb sb wb D S s who j (xptr g.xb) (.pointer (some ⟨x, 0, none⟩)) ((W.setCell ⟨x, 0, none⟩ (.int .i64 who)).setCell ⟨x, 1, none⟩ (.int .u8 j))) := Lib.hid (fun W x hfW hbW hx => by
                  have hb2 := (hbW.set 0 (.int .i64 who)).set 1 (.int .u8 j)
                  have hf2 : Fr wc ((W.setCell ⟨x, 0, none⟩ (.int .i64 who)).setCell ⟨x, 1, none⟩ (.int .u8 j)) Nil := (hfW.trans (Fr.store _ _ _ _) fun k hk e => by omega).trans (Fr.store _ _ _ _) fun k hk e => by omega
                  exact ⟨G1, g, S1, x, rfl, rfl, HV1.out.fr0 hf2, HG1.out, hb2, fun h => by have := HV1.out.lt _ h; omega, HF7.out.trans0 hf2, HS1.out, HS2.out, HS3.out, HB7.out.fr hf2 (fun h => h), HN7.out⟩)
                clear hx1 hv1 hg1 hf7 hs1 hs2 hs3 hb7 hn7 hj
                go_upto_region 15 with fail
                go_cut [13, 14] from 69 to 80 (fun v13 v14 wx => AskAt w w.heap.size lb sb wb D S s who j v13 v14 wx)
                case first =>
                  have hSa : KeptN wc wc.drew := KeptN.start wc
                  refine wp_region_sink 14 (KeptN wc) (by kernel_rfl) ?_
                  refine tk 0 hSa ?_
                  refine tk 1 hSa ?_
                  refine tk 2 hSa ?_
                  try simp only [Act.put, sA, sB, sC]
                  refine tk 3 hSa ?_ (hy := by intro _ w; have ck1 := k1 _ w; go_simp <;> with_reducible rfl)
                  try simp only [Act.put, sA, sB, sC]
                  refine tk 4 hSa ?_ (hy := by intro _ w; have ck2 := k2 _ w; have ck3 := k3 _ w; have ck4 := k4 _ w; go_simp <;> with_reducible rfl)
                  try simp only [Act.put, sA, sB, sC]
                  refine tk 5 hSa ?_ (hy := by intro _ w; have ck5 := k5 _ w; go_simp <;> with_reducible rfl)
                  try simp only [Act.put, sA, sB, sC]
                  refine tk 6 hSa ?_
                  refine tk 7 hSa ?_
                  refine tk 8 hSa ?_
                  try simp only [Act.put, sA, sB, sC]
                  refine wpAnyS_two (i := 9) (j := 12) rfl rfl (by kernel_rfl) (by decide) (by decide) (by rfl) (by rfl) (fun K hK => ?_) (fun K hK => ?_)
                  · go_simp
                    obtain ⟨wA, hwA⟩ : ∃ x, (wc.alloc (.cells #[.int .u8 hd, .int .u8 m] 31)).drew = x := ⟨_, rfl⟩
                    rw [hwA]
                    have hfwA : Fr wc wA Nil := by rw [← hwA]; exact ((Fr.refl wc Nil).alloc _).drew
                    have hbwA : Bk wA wc.heap.size 31 [.int .u8 hd, .int .u8 m] := by rw [← hwA]; exact (Bk.new wc _ _).fr (Fr.refl _ Nil).drew (fun h => h)
                    have hSb : KeptN wc wA := hfwA
                    have hzA : Hid (wA.heap.size = wc.heap.size + 1) := Lib.hid (by rw [← hwA]; exact World.size_alloc _ _)
                    have q0 : wA.cell? ⟨wc.heap.size, 0, none⟩ = some (.int .u8 hd) := hbwA.cell 0
                    have q1 : wA.cell? ⟨wc.heap.size, 1, none⟩ = some (.int .u8 m) := hbwA.cell 1
                    refine hK.out _ _ hSb ?_
                    clear hK K
                    try simp only [Act.put, sA, sB, sC]
                    refine wpAnyS_two (i := 10) (j := 12) rfl rfl (by kernel_rfl) (by decide) (by decide) (by rfl) (by rfl) (fun K hK => ?_) (fun K hK => ?_)
                    · go_simp
                      refine (join_any HHO.out HMM.out.1 wc.heap.size wA q0 q1).mono ?_
                      rintro e wj ⟨rfl, hwj⟩
                      rw [HJ.out, hwj]
                      refine hK.out _ _ hSb ?_
                      clear hK K
                      try simp only [Act.put, sA, sB, sC]
                      refine tk 11 hSb ?_
                      try simp only [Act.put, sA, sB, sC]
                      refine on1 12 fun K hK => ?_
                      go_simp
                      obtain ⟨wB, hwB⟩ : ∃ x, wA.alloc (.cells #[.int .i64 0, .int .u8 0] 67) = x := ⟨_, rfl⟩
                      rw [hwB]
                      have hfwB : Fr wA wB Nil := by rw [← hwB]; exact ((Fr.refl wA Nil).alloc _)
                      have hbwB : Bk wB wA.heap.size 67 [.int .i64 0, .int .u8 0] := by rw [← hwB]; exact (Bk.new wA _ _)
                      have hSc : KeptN wc wB := hSb.next hfwB
                      refine hK.out _ _ hSc ?_
                      clear hK K
                      try simp only [Act.put, sA, sB, sC]
                      refine tk 13 hSc ?_
                      try simp only [Act.put, sA, sB, sC]
                      have c0 : World.cell? wB _ = some _ := (hbwB).cell 0
                      have c1 : World.cell? wB _ = some _ := (hbwB).cell 1
                      have f0 := (hbwB).free 0
                      have f1 := (hbwB).free 1
                      refine wpAnyS_last (i := 14) rfl (by kernel_rfl) (by decide) (by kernel_rfl) (by rfl) fun K hK => ?_
                      go_simp
                      refine hK.out _ _ ?_
                      clear hK K
                      have hend := HEND.out _ _ hSc.fr (hbwB) (by have := hzA.out; omega)
                      clear f0 f1 c0 c1
                      go_wp2_with fail
                      go_meet
                      exact hend
                    · go_simp
                      obtain ⟨wB, hwB⟩ : ∃ x, wA.alloc (.cells #[.int .i64 0, .int .u8 0] 67) = x := ⟨_, rfl⟩
                      rw [hwB]
                      have hfwB : Fr wA wB Nil := by rw [← hwB]; exact ((Fr.refl wA Nil).alloc _)
                      have hbwB : Bk wB wA.heap.size 67 [.int .i64 0, .int .u8 0] := by rw [← hwB]; exact (Bk.new wA _ _)
                      have hSc : KeptN wc wB := hSb.next hfwB
                      have r0 : wB.cell? ⟨wc.heap.size, 0, none⟩ = some (.int .u8 hd) := hfwB.cell q0 (fun h => h)
                      have r1 : wB.cell? ⟨wc.heap.size, 1, none⟩ = some (.int .u8 m) := hfwB.cell q1 (fun h => h)
                      refine hK.out _ _ hSc ?_
                      clear hK K
                      try simp only [Act.put, sA, sB, sC]
                      refine on1 10 fun K hK => ?_
                      go_simp
                      refine (join_any HHO.out HMM.out.1 wc.heap.size wB r0 r1).mono ?_
                      rintro e wj ⟨rfl, hwj⟩
                      rw [HJ.out, hwj]
                      refine hK.out _ _ hSc ?_
                      clear hK K
                      try simp only [Act.put, sA, sB, sC]
                      refine tk 11 hSc ?_
                      try simp only [Act.put, sA, sB, sC]
                      refine tk 13 hSc ?_
                      try simp only [Act.put, sA, sB, sC]
                      have c0 : World.cell? wB _ = some _ := (hbwB).cell 0
                      have c1 : World.cell? wB _ = some _ := (hbwB).cell 1
                      have f0 := (hbwB).free 0
                      have f1 := (hbwB).free 1
                      refine wpAnyS_last (i := 14) rfl (by kernel_rfl) (by decide) (by kernel_rfl) (by rfl) fun K hK => ?_
                      go_simp
                      refine hK.out _ _ ?_
                      clear hK K
                      have hend := HEND.out _ _ hSc.fr (hbwB) (by have := hzA.out; omega)
                      clear f0 f1 c0 c1
                      go_wp2_with fail
                      go_meet
                      exact hend
                  · go_simp
                    obtain ⟨wA, hwA⟩ : ∃ x, (wc.alloc (.cells #[.int .i64 0, .int .u8 0] 67)).drew = x := ⟨_, rfl⟩
                    rw [hwA]
                    have hfwA : Fr wc wA Nil := by rw [← hwA]; exact ((Fr.refl wc Nil).alloc _).drew
                    have hbwA : Bk wA wc.heap.size 67 [.int .i64 0, .int .u8 0] := by rw [← hwA]; exact (Bk.new wc _ _).fr (Fr.refl _ Nil).drew (fun h => h)
                    have hSb : KeptN wc wA := hfwA
                    refine hK.out _ _ hSb ?_
                    clear hK K
                    try simp only [Act.put, sA, sB, sC]
                    refine on1 9 fun K hK => ?_
                    go_simp
                    obtain ⟨wB, hwB⟩ : ∃ x, wA.alloc (.cells #[.int .u8 hd, .int .u8 m] 31) = x := ⟨_, rfl⟩
                    rw [hwB]
                    have hfwB : Fr wA wB Nil := by rw [← hwB]; exact ((Fr.refl wA Nil).alloc _)
                    have hbwB : Bk wB wA.heap.size 31 [.int .u8 hd, .int .u8 m] := by rw [← hwB]; exact (Bk.new wA _ _)
                    have hSc : KeptN wc wB := hSb.next hfwB
                    have r0 : wB.cell? ⟨wA.heap.size, 0, none⟩ = some (.int .u8 hd) := hbwB.cell 0
                    have r1 : wB.cell? ⟨wA.heap.size, 1, none⟩ = some (.int .u8 m) := hbwB.cell 1
                    refine hK.out _ _ hSc ?_
                    clear hK K
                    try simp only [Act.put, sA, sB, sC]
                    refine on1 10 fun K hK => ?_
                    go_simp
                    refine (join_any HHO.out HMM.out.1 wA.heap.size wB r0 r1).mono ?_
                    rintro e wj ⟨rfl, hwj⟩
                    rw [HJ.out, hwj]
                    refine hK.out _ _ hSc ?_
                    clear hK K
                    try simp only [Act.put, sA, sB, sC]
                    refine tk 11 hSc ?_
                    try simp only [Act.put, sA, sB, sC]
                    refine tk 13 hSc ?_
                    try simp only [Act.put, sA, sB, sC]
                    have c0 : World.cell? wB _ = some _ := (hbwA.fr hfwB (fun h => h)).cell 0
                    have c1 : World.cell? wB _ = some _ := (hbwA.fr hfwB (fun h => h)).cell 1
                    have f0 := (hbwA.fr hfwB (fun h => h)).free 0
                    have f1 := (hbwA.fr hfwB (fun h => h)).free 1
                    refine wpAnyS_last (i := 14) rfl (by kernel_rfl) (by decide) (by kernel_rfl) (by rfl) fun K hK => ?_
                    go_simp
                    refine hK.out _ _ ?_
                    clear hK K
                    have hend := HEND.out _ _ hSc.fr (hbwA.fr hfwB (fun h => h)) (Nat.le_refl _)
                    clear f0 f1 c0 c1
                    go_wp2_with fail
                    go_meet
                    exact hend
                case rest =>
                  obtain ⟨G2, g2, S2, x, rfl, rfl, hv2, hg2, hb2, hnx, hf8, ht1, ht2, ht3, hb8, hn8⟩ := hcut
                  clear k1 k2 k3 k4 k5
                  have hx2 := hv2.at_ _ hg2
                  obtain ⟨ua, uc, huv⟩ := hx2.up.shape
                  obtain ⟨ra, rc, hrv⟩ := hx2.rest.shape
                  have hfew := queue_few HD.out s
                  have hqe : (queueL D.H D.W s = []) ↔ (prs (upL D.H D.W s)).length + (prs (restL D.H D.W s)).length = 0 := by
                    rw [prs_len, prs_len, ← List.length_append]
                    exact List.length_eq_zero_iff.symm
                  obtain ⟨nu, hnu⟩ : ∃ x, (prs (upL D.H D.W s)).length = x := ⟨_, rfl⟩
                  obtain ⟨nr, hnr⟩ : ∃ x, (prs (restL D.H D.W s)).length = x := ⟨_, rfl⟩
                  rw [hnu] at huv hfew hqe
                  rw [hnr] at hrv hfew hqe
                  have hfew2 : nu + nr ≤ 100000 := Nat.le_trans hfew HN.out
                  obtain ⟨hw1, _, hw3, _⟩ := use_bounds (m := 0) (u := 0) (nh := nu) (nr := nr) (n := 0 + 0 + (nu + nr)) rfl (by omega)
                  obtain ⟨be, hbe⟩ : ∃ b, decide (nu + nr = 0) = b := ⟨_, rfl⟩
                  have hz : ((nu : Int) + (nr : Int) == 0) = be := by
                    rw [← hbe, Bool.eq_iff_iff, beq_iff_eq, decide_eq_true_iff]
                    omega
                  have hqb : decide (queueL D.H D.W s = []) = be := by rw [← hbe]; exact decide_eq_decide.2 hqe
                  have HQB := Lib.hid hqb
                  have HNU := Lib.hid hnu
                  have HNR := Lib.hid hnr
                  have HSUM := Lib.hid hfew2
                  have cC := can_any (who := who) (m := j) hx2 (by rw [← HJ.out]; exact (joinM_ok HHO.out HMM.out.1).1) (fun p hp => holds_modes HD.out.inv s p hp)
                  have k1 : ∀ w', KeptN wc w' → w'.cell? ⟨g2.xb, 1, none⟩ = some (.slice ua nu uc) := KeptN.cell (by rw [← huv]; exact hx2.box.cell 1)
                  have k2 : ∀ w', KeptN wc w' → w'.cell? ⟨g2.xb, 2, none⟩ = some (.slice ra nr rc) := KeptN.cell (by rw [← hrv]; exact hx2.box.cell 2)
                  have k3 : ∀ w', KeptN wc w' → ((nu : Int) + (nr : Int) == 0) = be := fun _ _ => hz
                  have k4 : ∀ w', KeptN wc w' → IntKind.i64.wrap ((nu : Int) + (nr : Int)) = (nu : Int) + (nr : Int) := fun _ _ => hw1
                  have k6 : ∀ w', KeptN wc w' → wrap64 ((nu : Int) + (nr : Int)) = (nu : Int) + (nr : Int) := fun _ _ => hw3
                  have HV2 := Lib.hid hv2
                  have HG2' := Lib.hid hg2
                  have HB2 := Lib.hid hb2
                  have HNX := Lib.hid hnx
                  have HF8 := Lib.hid hf8
                  have HT1 := Lib.hid ht1
                  have HT2 := Lib.hid ht2
                  have HT3 := Lib.hid ht3
                  have HB8 := Lib.hid hb8
                  have HN8 := Lib.hid hn8
                  have HX2 := Lib.hid hx2
                  have HUV := Lib.hid huv
                  have HRV := Lib.hid hrv
                  clear hnu hnr hv2 hg2 hb2 hnx hf8 ht1 ht2 ht3 hb8 hn8 hx2 huv hrv hfew hqe hbe hqb hfew2 hz hw1 hw3
                  go_upto_region 16 with fail
                  go_cut [15] from 81 to 92 (fun v15 wx => v15 = .bool be ∧ Fr wc wx Nil)
                  case first =>
                    have hSa : KeptN wc wc.drew := KeptN.start wc
                    refine wp_region_sink 12 (KeptN wc) (by kernel_rfl) ?_
                    refine tk 0 hSa ?_
                    refine tk 1 hSa ?_
                    refine tk 2 hSa ?_
                    try simp only [Act.put, sA, sB, sC]
                    refine tk 3 hSa ?_ (hy := by intro _ w; have ck1 := k1 _ w; go_simp <;> with_reducible rfl)
                    try simp only [Act.put, sA, sB, sC]
                    refine tk 4 hSa ?_
                    refine tk 5 hSa ?_
                    refine tk 6 hSa ?_
                    refine tk 7 hSa ?_
                    try simp only [Act.put, sA, sB, sC]
                    refine tk 8 hSa ?_ (hy := by intro _ w; have ck2 := k2 _ w; go_simp <;> with_reducible rfl)
                    try simp only [Act.put, sA, sB, sC]
                    refine tk 9 hSa ?_
                    try simp only [Act.put, sA, sB, sC]
                    refine tk 10 hSa ?_ (hy := by intro _ w; have ck4 := k4 _ w; have ck6 := k6 _ w; go_simp <;> with_reducible rfl)
                    try simp only [Act.put, sA, sB, sC]
                    refine tk 11 hSa ?_ (hy := by intro _ w; have ck3 := k3 _ w; go_simp <;> with_reducible rfl)
                    try simp only [Act.put, sA, sB, sC]
                    refine wpAnyS_last (i := 12) rfl (by kernel_rfl) (by decide) (by kernel_rfl) (by rfl) fun K hK => ?_
                    go_simp
                    refine hK.out _ _ ?_
                    clear hK K
                    go_wp2_with fail
                    go_meet
                    exact ⟨rfl, hSa.fr⟩
                  case rest =>
                    obtain ⟨rfl, hf9⟩ := hcut
                    clear k1 k2 k3 k4 k6
                    have hb9 := HB2.out.fr hf9 (fun h => h)
                    have HF9 := Lib.hid (HF8.out.trans0 hf9)
                    have HV9 := Lib.hid (HV2.out.fr0 hf9)
                    have HX9 := Lib.hid (HX2.out.fr0 hf9)
                    have HB9 := Lib.hid hb9
                    have HB89 := Lib.hid (HB8.out.fr hf9 (fun h => h))
                    have x0 : wc.cell? ⟨x, 0, none⟩ = some (.int .i64 who) := hb9.cell 0
                    have x1 : wc.cell? ⟨x, 1, none⟩ = some (.int .u8 j) := hb9.cell 1
                    have cC := can_any (who := who) (m := j) HX9.out (by rw [← HJ.out]; exact (joinM_ok HHO.out HMM.out.1).1) (fun p hp => holds_modes HD.out.inv s p hp)
                    unfold CanRet at cC
                    rw [can_is] at cC
                    obtain ⟨cn, hcn⟩ : ∃ b, canL D.H who s j = b := ⟨_, rfl⟩
                    rw [hcn] at cC
                    have HCN := Lib.hid hcn
                    obtain ⟨gr, hgr⟩ : ∃ b, decide (cn = true ∧ (hd ≠ 0 ∨ be = true)) = b := ⟨_, rfl⟩
                    have HGR := Lib.hid hgr
                    clear hf9 hb9 hcn hgr
                    obtain ⟨nz, hnz⟩ : ∃ b, (hd != 0) = b := ⟨_, rfl⟩
                    have HNZ := Lib.hid hnz
                    go_upto_block 1 with fail
                    go_cut [] from 93 to 133 (fun wx => R = ((false, 0), { D with W := D.W ++ [⟨s, who, j⟩] }) ∧ LineAt w w.heap.size lb sb wb D S s who j wx)
                    case first =>
                      go_upto_region 18 with fail
                      go_cut [103] from 104 to 113 (fun v103 wx => v103 = .bool gr ∧ Fr wc wx Nil)
                      case first =>
                        go_wp2_with fail
                        refine cC.mono ?_
                        rintro e w4 ⟨rfl, hf4⟩
                        have HF4 := Lib.hid hf4
                        clear hf4 x0 x1 cC
                        cases cn with
                        | false =>
                          go_wp2_with fail
                          go_meet
                          refine ⟨?_, HF4.out⟩
                          rw [← HGR.out]; simp
                        | true =>
                          cases be with
                          | true =>
                            go_wp2_with fail
                            go_meet
                            refine ⟨?_, HF4.out⟩
                            rw [← HGR.out]; simp
                          | false =>
                            go_wp2_with fail
                            go_meet
                            refine ⟨?_, HF4.out⟩
                            rw [← HGR.out, ← HNZ.out]
                            by_cases h0 : hd = 0 <;> simp [h0]
                      case rest =>
                        obtain ⟨rfl, hf10⟩ := hcut
                        clear x0 x1 cC
                        have hb10 := HB9.out.fr hf10 (fun h => h)
                        have HF10 := Lib.hid (HF9.out.trans0 hf10)
                        have HV10 := Lib.hid (HV9.out.fr0 hf10)
                        have HX10 := Lib.hid (HX9.out.fr0 hf10)
                        have HB10 := Lib.hid hb10
                        have HB810 := Lib.hid (HB89.out.fr hf10 (fun h => h))
                        have hbase : R = (if canL D.H who s j = true ∧ (hd ≠ 0 ∨ queueL D.H D.W s = []) then ((true, 0), { D with H := putH D.H who s j }) else ((false, 0), { D with W := D.W ++ [⟨s, who, j⟩] })) := by
                          have h3 : ¬ (hd = 0 ∧ D.most ≤ (usedL D : Int)) := by rw [HUN.out]; exact of_decide_eq_false HFU.out
                          rw [← HR.out]; unfold askL; rw [if_neg (by rw [HMY.out]; decide), if_neg (by rw [HIW.out]; decide), HHD.out, if_neg (by rw [HCV.out]; decide), if_neg h3, HJ.out]
                        have hcond : decide (canL D.H who s j = true ∧ (hd ≠ 0 ∨ queueL D.H D.W s = [])) = gr := by
                          rw [← HGR.out, HCN.out, ← HQB.out]
                          simp
                        cases gr with
                        | true =>
                          have hr : R = ((true, 0), { D with H := putH D.H who s j }) := by rw [hbase, if_pos (of_decide_eq_true hcond)]
                          subst hr
                          have k1 : ∀ w', KeptN wc w' → w'.cell? ⟨g2.xb, 0, none⟩ = some (.map (some g2.hb)) := KeptN.cell (HX10.out.box.cell 0)
                          have k2 : ∀ w', KeptN wc w' → w'.cell? ⟨x, 1, none⟩ = some (.int .u8 j) := KeptN.cell (hb10.cell 1)
                          clear hf10 hb10 hbase hcond
                          go_wp2_with fail
                          have hSa : KeptN wc wc.drew := KeptN.start wc
                          refine wp_region_sink 7 (KeptN wc) (by kernel_rfl) ?_
                          refine tk 0 hSa ?_
                          refine tk 1 hSa ?_
                          refine tk 2 hSa ?_
                          try simp only [Act.put, sA, sB, sC]
                          refine tk 3 hSa ?_ (hy := by intro _ w; have ck1 := k1 _ w; go_simp <;> with_reducible rfl)
                          try simp only [Act.put, sA, sB, sC]
                          refine tk 4 hSa ?_
                          refine tk 5 hSa ?_
                          try simp only [Act.put, sA, sB, sC]
                          refine tk 6 hSa ?_ (hy := by intro _ w; have ck2 := k2 _ w; go_simp <;> with_reducible rfl)
                          try simp only [Act.put, sA, sB, sC]
                          have hkl : (holdsOf D.H s).length < maxLen := by have := holds_few HD.out s; have := HN.out; unfold maxLen; omega
                          refine wpAnyS_last (i := 7) rfl (by kernel_rfl) (by decide) (by kernel_rfl) (by rfl) fun K hK => ?_
                          refine wp_map_set _ _ _ _ 72 rfl 2 31 Tryz.keyI64 Tryz.underlying72 intKey g2.hb (holdsOf D.H s) hkl rfl ((HX10.out.fr0 hSa.fr).holds) _ who rfl (keyW HW.out) j rfl ?_
                          intro w7 hm7 hf7
                          refine hK.out _ _ ?_
                          clear hK K
                          obtain ⟨G7, hv7⟩ := LkV.have_ (HV10.out.fr0 hSa.fr) (wish_none (Option.not_isSome_iff_eq_none.1 (by rw [HIW.out]; decide))) HG2'.out hm7 hf7
                          have hfw7 : Fr w w7 S := (HF10.out.trans (hSa.fr.of_nil (S := S)) fun _ _ h => h).trans hf7 fun k hk e => by
                            have h1 := HV10.out.inX _ HG2'.out k (.inr (.inl e))
                            exact (HT2.out k h1).elim id fun h => by omega
                          have HV7 := Lib.hid hv7
                          have HF7' := Lib.hid hfw7
                          clear hSa k1 k2 hm7 hf7 hv7 hfw7 hkl
                          go_wp2_with fail
                          go_ret2
                          exact ⟨S2, rfl, ⟨sb, wb, G7, HV7.out⟩, HT1.out, HT2.out, fun K hK => (HT3.out K hK).more (by omega), HF7'.out⟩
                        | false =>
                          have hr : R = ((false, 0), { D with W := D.W ++ [⟨s, who, j⟩] }) := by rw [hbase, if_neg (of_decide_eq_false hcond)]
                          subst hr
                          clear hf10 hbase hcond hb10
                          have HNX2 := Lib.hid HNX.out
                          go_upto_if 121 with fail
                          clear hnz
                          cases nz with
                          | false =>
                              have HZ : Hid (hd = 0) := Lib.hid (by have := HNZ.out; rwa [bne_eq_false_iff_eq] at this)
                              go_wp2_with fail
                              have hSa : Fr wc wc.drew (fun k => g2.rv.ownBlock = some k) := (Fr.refl wc _).drew
                              have ku : ∀ w', Fr wc w' (fun k => g2.rv.ownBlock = some k) → w'.cell? ⟨g2.xb, 2, none⟩ = some (.slice ra nr rc) := fun w' hf => hf.cell (by rw [← HRV.out]; exact HX10.out.box.cell 2) (fun e => HX10.out.rx e)
                              have kx : ∀ w', Fr wc w' (fun k => g2.rv.ownBlock = some k) → w'.cell? ⟨x, 0, none⟩ = some (.int .i64 who) := fun w' hf => hf.cell (HB10.out.cell 0) (fun h => HNX2.out (HV10.out.inX _ HG2'.out _ (.inr (.inr (.inr h)))))
                              have ky : ∀ w', Fr wc w' (fun k => g2.rv.ownBlock = some k) → w'.cell? ⟨x, 1, none⟩ = some (.int .u8 j) := fun w' hf => hf.cell (HB10.out.cell 1) (fun h => HNX2.out (HV10.out.inX _ HG2'.out _ (.inr (.inr (.inr h)))))
                              refine wp_region_sink 10 (fun w' => Fr wc w' (fun k => g2.rv.ownBlock = some k)) (by kernel_rfl) ?_
                              refine tk 0 hSa ?_
                              refine tk 1 hSa ?_
                              refine tk 2 hSa ?_
                              refine tk 3 hSa ?_
                              try simp only [Act.put, sA, sB, sC]
                              refine tk 4 hSa ?_ (hy := by intro _ w; have cku := ku _ w; go_simp <;> with_reducible rfl)
                              try simp only [Act.put, sA, sB, sC]
                              refine tk 5 hSa ?_ (hy := by intro _ w; have ckx := kx _ w; have cky := ky _ w; go_simp <;> with_reducible rfl)
                              try simp only [Act.put, sA, sB, sC]
                              refine on1 6 fun K hK => ?_
                              go_simp
                              obtain ⟨wA, hwA⟩ : ∃ x, (wc.alloc (.cells #[.int .i64 who, .int .u8 j] 67)).drew = x := ⟨_, rfl⟩
                              rw [hwA]
                              have hfwA : Fr wc wA Nil := by rw [← hwA]; exact ((Fr.refl wc Nil).alloc _).drew
                              have hsl : SlAt wA 2 (.slice (some ⟨wc.heap.size, 0, none⟩) 1 1) 1 [.int .i64 who, .int .u8 j] := by rw [← hwA]; exact hold_new wc who j
                              have hSb : Fr wc wA (fun k => g2.rv.ownBlock = some k) := hfwA.of_nil
                              refine hK.out _ _ hSb ?_
                              clear hK K
                              try simp only [Act.put, sA, sB, sC]
                              have hown : wA.ownsRow 0 67 2 (.slice ra nr rc) nr ((prs (restL D.H D.W s)).flatMap hold2) := by
                                have h1 := (HX10.out.rest).fr hfwA (fun _ _ h => h)
                                rw [HRV.out] at h1
                                unfold OwnH at h1
                                rw [HNR.out] at h1
                                exact h1
                              have hlo : nr + 1 ≤ 1000000 := by have := HSUM.out; omega
                              refine on1 7 fun K hK => ?_
                              refine wp_app _ _ _ 48 rfl holdT (.slice ra nr rc) rfl hown (.slice (some ⟨wc.heap.size, 0, none⟩) 1 1) rfl hsl (hold2_one [(who, j)]) hlo ?_
                              intro ga gc W4 ho4 hg4 hb4
                              have hSc : Fr wc W4 (fun k => g2.rv.ownBlock = some k) := hSb.grown hg4 fun k hk _ => by rw [HRV.out]; exact hk
                              have hv4 : OwnH W4 (.slice ga (nr + 1) gc) (prs (restL D.H D.W s) ++ [(who, j)]) := by
                                unfold OwnH
                                rw [List.length_append, HNR.out, List.flatMap_append]
                                exact ho4
                              have hfresh : ∀ k, (Value.slice ga (nr + 1) gc).ownBlock = some k → g2.rv.ownBlock = some k ∨ wc.heap.size ≤ k := fun k hk => by
                                rcases hb4 with h | h
                                · exact .inl (by rw [HRV.out, ← h]; exact hk)
                                · rw [h] at hk
                                  have hk2 := Option.some.inj hk
                                  have := hfwA.size
                                  exact .inr (by omega)
                              refine hK.out _ _ hSc ?_
                              clear hK K
                              try simp only [Act.put, sA, sB, sC]
                              refine tk 8 hSc ?_
                              refine tk 9 hSc ?_
                              try simp only [Act.put, sA, sB, sC]
                              have c1 := ku _ hSc
                              have f1 := (HX10.out.box.fr hSc (fun e => HX10.out.rx e)).free 2
                              refine wpAnyS_last (i := 10) rfl (by kernel_rfl) (by decide) (by kernel_rfl) (by rfl) fun K hK => ?_
                              go_simp
                              refine hK.out _ _ ?_
                              obtain ⟨hf5, G5, S5, hv5, hs1, hs2, hs3⟩ := LkV.lineRest (who := who) (m := j) HV10.out HG2'.out (by rw [HHD.out]; exact HZ.out) hv4 hSc hfresh
                              have hend : LineAt w w.heap.size lb sb wb D S s who j (W4.setCell ⟨g2.xb, 2, none⟩ (.slice ga (nr + 1) gc)) := ⟨G5, S5, hv5, HF10.out.trans hf5 fun k hk h => (HT2.out k (HV10.out.inX _ HG2'.out k h)).elim id (fun h => by omega), fun k hk => hs1 k (HT1.out k hk), fun k hk => (hs2 k hk).elim (HT2.out k) fun h => .inr (by have := HF10.out.size; omega), fun K hK => hs3 (K + 2) (HT3.out K hK), HB810.out.fr hf5 fun h => HN8.out (HV10.out.inX _ HG2'.out _ h)⟩
                              clear hK K c1 f1 hf5 hv5 hs1 hs2 hs3 ho4 hg4 hb4 hv4 hSc hfresh hown hsl ku kx ky hSa hSb
                              go_wp2_with fail
                              go_meet
                              exact ⟨trivial, hend⟩
                          | true =>
                              have HZ : Hid (hd ≠ 0) := Lib.hid (by have := HNZ.out; rwa [bne_iff_ne] at this)
                              go_wp2_with fail
                              have hSa : Fr wc wc.drew (fun k => g2.uv.ownBlock = some k) := (Fr.refl wc _).drew
                              have ku : ∀ w', Fr wc w' (fun k => g2.uv.ownBlock = some k) → w'.cell? ⟨g2.xb, 1, none⟩ = some (.slice ua nu uc) := fun w' hf => hf.cell (by rw [← HUV.out]; exact HX10.out.box.cell 1) (fun e => HX10.out.ux e)
                              have kx : ∀ w', Fr wc w' (fun k => g2.uv.ownBlock = some k) → w'.cell? ⟨x, 0, none⟩ = some (.int .i64 who) := fun w' hf => hf.cell (HB10.out.cell 0) (fun h => HNX2.out (HV10.out.inX _ HG2'.out _ (.inr (.inr (.inl h)))))
                              have ky : ∀ w', Fr wc w' (fun k => g2.uv.ownBlock = some k) → w'.cell? ⟨x, 1, none⟩ = some (.int .u8 j) := fun w' hf => hf.cell (HB10.out.cell 1) (fun h => HNX2.out (HV10.out.inX _ HG2'.out _ (.inr (.inr (.inl h)))))
                              refine wp_region_sink 10 (fun w' => Fr wc w' (fun k => g2.uv.ownBlock = some k)) (by kernel_rfl) ?_
                              refine tk 0 hSa ?_
                              refine tk 1 hSa ?_
                              refine tk 2 hSa ?_
                              refine tk 3 hSa ?_
                              try simp only [Act.put, sA, sB, sC]
                              refine tk 4 hSa ?_ (hy := by intro _ w; have cku := ku _ w; go_simp <;> with_reducible rfl)
                              try simp only [Act.put, sA, sB, sC]
                              refine tk 5 hSa ?_ (hy := by intro _ w; have ckx := kx _ w; have cky := ky _ w; go_simp <;> with_reducible rfl)
                              try simp only [Act.put, sA, sB, sC]
                              refine on1 6 fun K hK => ?_
                              go_simp
                              obtain ⟨wA, hwA⟩ : ∃ x, (wc.alloc (.cells #[.int .i64 who, .int .u8 j] 67)).drew = x := ⟨_, rfl⟩
                              rw [hwA]
                              have hfwA : Fr wc wA Nil := by rw [← hwA]; exact ((Fr.refl wc Nil).alloc _).drew
                              have hsl : SlAt wA 2 (.slice (some ⟨wc.heap.size, 0, none⟩) 1 1) 1 [.int .i64 who, .int .u8 j] := by rw [← hwA]; exact hold_new wc who j
                              have hSb : Fr wc wA (fun k => g2.uv.ownBlock = some k) := hfwA.of_nil
                              refine hK.out _ _ hSb ?_
                              clear hK K
                              try simp only [Act.put, sA, sB, sC]
                              have hown : wA.ownsRow 0 67 2 (.slice ua nu uc) nu ((prs (upL D.H D.W s)).flatMap hold2) := by
                                have h1 := (HX10.out.up).fr hfwA (fun _ _ h => h)
                                rw [HUV.out] at h1
                                unfold OwnH at h1
                                rw [HNU.out] at h1
                                exact h1
                              have hlo : nu + 1 ≤ 1000000 := by have := HSUM.out; omega
                              refine on1 7 fun K hK => ?_
                              refine wp_app _ _ _ 48 rfl holdT (.slice ua nu uc) rfl hown (.slice (some ⟨wc.heap.size, 0, none⟩) 1 1) rfl hsl (hold2_one [(who, j)]) hlo ?_
                              intro ga gc W4 ho4 hg4 hb4
                              have hSc : Fr wc W4 (fun k => g2.uv.ownBlock = some k) := hSb.grown hg4 fun k hk _ => by rw [HUV.out]; exact hk
                              have hv4 : OwnH W4 (.slice ga (nu + 1) gc) (prs (upL D.H D.W s) ++ [(who, j)]) := by
                                unfold OwnH
                                rw [List.length_append, HNU.out, List.flatMap_append]
                                exact ho4
                              have hfresh : ∀ k, (Value.slice ga (nu + 1) gc).ownBlock = some k → g2.uv.ownBlock = some k ∨ wc.heap.size ≤ k := fun k hk => by
                                rcases hb4 with h | h
                                · exact .inl (by rw [HUV.out, ← h]; exact hk)
                                · rw [h] at hk
                                  have hk2 := Option.some.inj hk
                                  have := hfwA.size
                                  exact .inr (by omega)
                              refine hK.out _ _ hSc ?_
                              clear hK K
                              try simp only [Act.put, sA, sB, sC]
                              refine tk 8 hSc ?_
                              refine tk 9 hSc ?_
                              try simp only [Act.put, sA, sB, sC]
                              have c1 := ku _ hSc
                              have f1 := (HX10.out.box.fr hSc (fun e => HX10.out.ux e)).free 1
                              refine wpAnyS_last (i := 10) rfl (by kernel_rfl) (by decide) (by kernel_rfl) (by rfl) fun K hK => ?_
                              go_simp
                              refine hK.out _ _ ?_
                              obtain ⟨hf5, G5, S5, hv5, hs1, hs2, hs3⟩ := LkV.lineUp (who := who) (m := j) HV10.out HG2'.out (by rw [HHD.out]; exact HZ.out) hv4 hSc hfresh
                              have hend : LineAt w w.heap.size lb sb wb D S s who j (W4.setCell ⟨g2.xb, 1, none⟩ (.slice ga (nu + 1) gc)) := ⟨G5, S5, hv5, HF10.out.trans hf5 fun k hk h => (HT2.out k (HV10.out.inX _ HG2'.out k h)).elim id (fun h => by omega), fun k hk => hs1 k (HT1.out k hk), fun k hk => (hs2 k hk).elim (HT2.out k) fun h => .inr (by have := HF10.out.size; omega), fun K hK => hs3 (K + 2) (HT3.out K hK), HB810.out.fr hf5 fun h => HN8.out (HV10.out.inX _ HG2'.out _ h)⟩
                              clear hK K c1 f1 hf5 hv5 hs1 hs2 hs3 ho4 hg4 hb4 hv4 hSc hfresh hown hsl ku kx ky hSa hSb
                              go_wp2_with fail
                              go_meet
                              exact ⟨trivial, hend⟩
                    case rest =>
                      clear x0 x1 cC hnz
                      obtain ⟨hr, G5, S5, hv5, hf5, hs1, hs2, hs3, hb5⟩ := hcut
                      subst hr
                      have k1 : ∀ w', KeptN wc w' → w'.cell? ⟨lb, 2, none⟩ = some (.map (some wb)) := KeptN.cell (hv5.root.cell 2)
                      have k2 : ∀ w', KeptN wc w' → w'.cell? ⟨w.heap.size, 0, none⟩ = some (.int .i64 s.1) := KeptN.cell (hb5.cell 0)
                      have k3 : ∀ w', KeptN wc w' → w'.cell? ⟨w.heap.size, 1, none⟩ = some (.bool s.2.1) := KeptN.cell (hb5.cell 1)
                      have k4 : ∀ w', KeptN wc w' → w'.cell? ⟨w.heap.size, 2, none⟩ = some (.int .i64 s.2.2) := KeptN.cell (hb5.cell 2)
                      have HV5 := Lib.hid hv5
                      have HF5' := Lib.hid hf5
                      have HS1' := Lib.hid hs1
                      have HS2' := Lib.hid hs2
                      have HS3' := Lib.hid hs3
                      clear hv5 hf5 hs1 hs2 hs3 hb5
                      go_wp2_with fail
                      have hSa : KeptN wc wc.drew := KeptN.start wc
                      refine wp_region_sink 6 (KeptN wc) (by kernel_rfl) ?_
                      refine tk 0 hSa ?_
                      refine tk 1 hSa ?_
                      refine tk 2 hSa ?_
                      try simp only [Act.put, sA, sB, sC]
                      refine tk 3 hSa ?_ (hy := by intro _ w; have ck1 := k1 _ w; go_simp <;> with_reducible rfl)
                      try simp only [Act.put, sA, sB, sC]
                      refine tk 4 hSa ?_
                      try simp only [Act.put, sA, sB, sC]
                      refine tk 5 hSa ?_ (hy := by intro _ w; have ck2 := k2 _ w; have ck3 := k3 _ w; have ck4 := k4 _ w; go_simp <;> with_reducible rfl)
                      try simp only [Act.put, sA, sB, sC]
                      have hkl : (pairsW D.W).length < maxLen := by have h1 : (pairsW D.W).length = D.W.length := List.length_map _; have := HD.out.few; have := HN.out; unfold maxLen; omega
                      refine wpAnyS_last (i := 6) rfl (by kernel_rfl) (by decide) (by kernel_rfl) (by rfl) fun K hK => ?_
                      refine wp_map_set _ _ _ _ 57 rfl 2 30 Tryz.keyI64 Tryz.underlying57 intKey wb (pairsW D.W) hkl rfl ((HV5.out.fr0 hSa.fr).waits) _ who rfl (keyW HW.out) s rfl ?_
                      intro w7 hm7 hf7
                      refine hK.out _ _ ?_
                      clear hK K
                      rw [pairsW_snoc (wish_none (Option.not_isSome_iff_eq_none.1 (by rw [HIW.out]; decide))) s j] at hm7
                      have hv7 := LkG.waitsTo (HV5.out.fr0 hSa.fr) hm7 hf7
                      have hfw7 : Fr w w7 S := (HF5'.out.trans (hSa.fr.of_nil (S := S)) fun _ _ h => h).trans hf7 fun k hk e => by
                        have h1 := HV5.out.inW
                        rw [← show k = wb from e] at h1
                        exact (HS2'.out k h1).elim id fun h => by omega
                      have HV7 := Lib.hid hv7
                      have HF7' := Lib.hid hfw7
                      clear hSa k1 k2 k3 k4 hm7 hf7 hv7 hfw7 hkl
                      go_wp2_with fail
                      go_ret2
                      exact ⟨S5, rfl, ⟨sb, wb, G5, HV7.out⟩, HS1'.out, HS2'.out, HS3'.out, HF7'.out⟩
end Go.Proofs.YtokeciekncincabGreat
