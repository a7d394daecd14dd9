/-
  The walk of AdmitFits: it answers true.
  No condition.
-/
import Derived.Test.YtplebgcgoigigaaAdFits
import Derived.Test.YtplebgcgoigigaaSink
import Derived.Deep.DeepCutAuto
import Derived.Deep.CutBlock
namespace Go.Proofs.Ytplebgcgoigigaa
open Go Go.RowKit Go.Maps Go.Shelf

set_option maxRecDepth 100000 in
set_option maxHeartbeats 16000000 in
theorem afits_main (c : CapD) (cv : Value) (calls : List CallD) (w : World) (hm : c.may = true) (hcs : CallsAt w cv calls) (hl : calls.length ≤ 80) :
    Calls Try.prog 5 #[c.val, cv] w fun e w' => e = .returned (.bool true) ∧ Fr w w' Nil := by
  obtain ⟨ca, ccap, rfl, hcc⟩ := hcs.shape
  have HCS := Lib.hid hcs
  have HM := Lib.hid hm
  have HW := Lib.hid (CapD.wf_of hm)
  clear hcs hm
  have hb0 := bk_at w 23 #[.int .i64 c.n, .int .i64 c.l, .int .i64 c.u] _ rfl
  have HB0 := Lib.hid hb0
  clear hb0
  go_enter Try.func5, Try.ntmps5
  go_wp2_with fail
  refine (new_yes c _ HM.out).mono ?_
  rintro e w1 ⟨gb, bm, rfl, hg, hf, _, hn⟩
  have HG := Lib.hid hg
  have HB1 := Lib.hid (HB0.out.fr hf fun h => h)
  have HF1 : Hid (Fr w w1 Nil) := ((Fr.refl w Nil).alloc _).trans0 hf
  have HN : Hid (w.heap.size + 1 ≤ bm) := by
    have : w.heap.size + 1 ≤ bm := by simp at hn; omega
    exact this
  clear hg hf hn HB0
  generalize hs : w.heap.size = sz at *
  have HS := Lib.hid hs
  clear hs
  go_wp2_with fail
  go_loopw [7, 8, 9, 10, 11, 12, 13, 14, 15, 16, 17, 18, 19, 20, 21] (fun vi _ _ _ _ _ _ _ _ _ _ _ _ _ _ wr => ∃ (k : Nat) (M : List (Int × Nd)), k ≤ calls.length ∧ vi = .int .i64 k ∧ GateAt wr gb bm c M ∧ Inv c M ∧ M.length ≤ k ∧ Fr w1 wr (fun j => j = bm)) (fun vi _ _ _ _ _ _ _ _ _ _ _ _ _ _ _ => calls.length - (intOf vi).toNat)
  case atStart => exact ⟨0, [], by omega, rfl, HG.out, Inv.nil HM.out, by simp, Fr.refl _ _⟩
  case round =>
    obtain ⟨k, M, hk, rfl, hg, hi, hml, hf⟩ := hrel
    have HG := Lib.hid hg
    have HI := Lib.hid hi
    have Hf := Lib.hid hf
    have HFw : Hid (Fr w wr Nil) := HF1.out.trans hf fun j hj e => absurd hj (by have := HN.out; have := HS.out; omega)
    clear hg hi hf
    by_cases hlt : k < calls.length
    · obtain ⟨tb, toff, tcap2, htv, htc⟩ := (HCS.out.fr0 HFw.out).form (by omega)
      simp only [Value.slice.injEq, true_and] at htv
      obtain ⟨rfl, rfl⟩ := htv
      have hgt := List.getElem?_eq_getElem hlt
      generalize calls[k] = t at hgt
      obtain ⟨p0, p1, p2, p3, p4, p5⟩ := call_cells htc hgt
      have hki : (k : Int) < (calls.length : Int) := by omega
      obtain ⟨tk, tw, ⟨np, ns, nl, nu⟩, tok, tow⟩ := t
      simp only at p0 p1 p2 p3 p4 p5
      have HTB := Lib.hid (bk_at wr 35 #[.int .u8 tk, .int .i64 tw, .int .i64 np, .bool ns, .int .i64 nl, .int .i64 nu] _ rfl)
      obtain ⟨wo, rfl⟩ : ∃ wo : World, wo = wr := ⟨_, rfl⟩
      have HG1 := Lib.hid (HG.out.fr0 ((Fr.refl wo Nil).alloc (.cells #[.int .u8 tk, .int .i64 tw, .int .i64 np, .bool ns, .int .i64 nl, .int .i64 nu] 35)))
      clear htc hgt
      go_wp2_with fail
      refine (room_any gb bm c M _ HG1.out HW.out).mono ?_
      rintro e w2 ⟨rfl, hf2⟩
      have hfo : Fr wo w2 Nil := ((Fr.refl wo Nil).alloc _).trans0 hf2
      have HG2 := Lib.hid (HG1.out.fr0 hf2)
      have HTB2 := Lib.hid (HTB.out.fr hf2 fun h => h)
      have Hfo2 := Lib.hid hfo
      clear hf2 hfo HG1 HTB HG p0 p1 p2 p3 p4 p5
      go_wp2_with fail
      refine (in_any gb bm c M _ HG2.out (by omega)).mono ?_
      rintro e w3 ⟨v, rfl, hv, hvn, hf3⟩
      obtain ⟨va, vcap, rfl⟩ := hv.shape
      rw [keysOf_len]
      have HG3 := Lib.hid (HG2.out.fr0 hf3)
      have HTB3 := Lib.hid (HTB2.out.fr hf3 fun h => h)
      have Hfo3 := Lib.hid (Hfo2.out.trans0 hf3)
      clear hf3 hv hvn HG2 HTB2 Hfo2
      generalize hr : roomOf c M = R at *
      have HR := Lib.hid hr
      clear hr
      obtain ⟨r1, r2, r3⟩ := R
      generalize hwo : wo.heap.size = so at *
      have HSO := Lib.hid hwo
      clear hwo
      obtain ⟨kd, hkd, hkd2⟩ : ∃ kd : Int, tk % 4 = kd ∧ (kd = 2 ∨ kd = 3 ∨ (kd ≠ 2 ∧ kd ≠ 3)) := ⟨_, rfl, by omega⟩
      have t0 := (HTB3.out.alloc (.cells #[.int .i64 r1, .int .i64 r2, .int .i64 r3] 23)).cell 0
      have t1 := (HTB3.out.alloc (.cells #[.int .i64 r1, .int .i64 r2, .int .i64 r3] 23)).cell 1
      have t2 := (HTB3.out.alloc (.cells #[.int .i64 r1, .int .i64 r2, .int .i64 r3] 23)).cell 2
      have t3 := (HTB3.out.alloc (.cells #[.int .i64 r1, .int .i64 r2, .int .i64 r3] 23)).cell 3
      have t4 := (HTB3.out.alloc (.cells #[.int .i64 r1, .int .i64 r2, .int .i64 r3] 23)).cell 4
      have t5 := (HTB3.out.alloc (.cells #[.int .i64 r1, .int .i64 r2, .int .i64 r3] 23)).cell 5
      simp only [List.getElem?_cons_zero, List.getElem?_cons_succ] at t0 t1 t2 t3 t4 t5
      have HG4 := Lib.hid (HG3.out.fr0 ((Fr.refl w3 Nil).alloc (.cells #[.int .i64 r1, .int .i64 r2, .int .i64 r3] 23)))
      have Hfo4 := Lib.hid (Hfo3.out.alloc (.cells #[.int .i64 r1, .int .i64 r2, .int .i64 r3] 23))
      have HTB4 := Lib.hid (HTB3.out.alloc (.cells #[.int .i64 r1, .int .i64 r2, .int .i64 r3] 23))
      have HRB4 := Lib.hid (bk_at w3 23 #[.int .i64 r1, .int .i64 r2, .int .i64 r3] _ rfl)
      have HG4b : Hid (bm < w3.heap.size) := by
        have : bm < w3.heap.size := by
          have h1 := HG.out.2.lt
          have h2 := Hf.out.size
          have h3 := Hfo3.out.size
          omega
        exact this
      go_upto_block 2 with (fail)
      go_cut [11, 12, 54] (fun _ _ _ wx => ∃ M' : List (Int × Nd), GateAt wx gb bm c M' ∧ Inv c M' ∧ M'.length ≤ k + 1 ∧ Fr w1 wx (fun j => j = bm))
      case first =>
        rcases hkd2 with rfl | rfl | ⟨hk2, hk3⟩
        · go_wp2_with fail
          refine (gleave_any gb bm c M tw _ HG4.out tow).mono ?_
          rintro e w6 ⟨rfl, hg6, hf6⟩
          have HG6 := Lib.hid hg6
          have Hf6 : Hid (Fr w1 w6 (fun j => j = bm)) := (Hf.out.trans0 Hfo4.out).transS hf6
          have HI6 := Lib.hid (HI.out.leave tw)
          have hml6 := leave_len M tw
          clear hg6 hf6
          go_wp2_with fail
          go_meet
          case rel => exact ⟨leaveM M tw, HG6.out, HI6.out, by omega, Hf6.out⟩
        · go_wp2_with fail
          refine (gmay_any gb bm c M ⟨np, ns, nl, nu⟩ _ HG4.out HW.out).mono ?_
          rintro e w5 ⟨rfl, hf5⟩
          have HG5 := Lib.hid (HG4.out.fr0 hf5)
          have Hfo5 := Lib.hid (Hfo4.out.trans0 hf5)
          have HTB5 := Lib.hid (HTB4.out.fr hf5 fun h => h)
          have HRB5 := Lib.hid (HRB4.out.fr hf5 fun h => h)
          clear hf5 HG4 Hfo4 HTB4 HRB4 t0 t1 t2 t3 t4 t5 HG3 HTB3 Hfo3
          generalize mayP c M ⟨np, ns, nl, nu⟩ = mb
          generalize hs3 : w3.heap.size = s3 at *
          have u0 := HRB5.out.cell 0
          have u1 := HRB5.out.cell 1
          have u2 := HRB5.out.cell 2
          simp only [List.getElem?_cons_zero, List.getElem?_cons_succ] at u0 u1 u2
          go_wp2_with fail
          have k0 := KeptF.cell u0
          have k1 := KeptF.cell u1
          have k2 := KeptF.cell u2
          go_region_held3 (KeptF w5) (first | exact hS5 | exact KeptF.start _ | go_keep)
            (first | (go_at_call 17; have hfx : KeptF w5 _ := (by assumption); refine (room_any gb bm c M _ (HG5.out.fr0 hfx.fr) HW.out).mono ?_; rintro e w6 ⟨rfl, hf6⟩; rw [HR.out]; have hS5 := hfx.next hf6) | (go_at_call 12; have hfx : KeptF w5 _ := (by assumption); refine (in_any gb bm c M _ (HG5.out.fr0 hfx.fr) (by omega)).mono ?_; rintro e w6 ⟨vv, rfl, hvv, _, hf6⟩; obtain ⟨vva, vvc, rfl⟩ := hvv.shape; rw [keysOf_len]; have hS5 := hfx.next hf6))
          have HG6 := Lib.hid (HG5.out.fr0 hS5.fr)
          have Hf6 : Hid (Fr w1 w6 (fun j => j = bm)) := Hf.out.trans0 ((Hfo5.out.trans0 hS5.fr))
          clear hS5 hf6 hvv u0 u1 u2 k0 k1 k2 HG5 Hfo5 HTB5 HRB5
          go_wp2_with fail
          go_meet
          case rel => exact ⟨M, HG6.out, HI.out, by omega, Hf6.out⟩
        · go_wp2_with fail
          refine (gmay_any gb bm c M ⟨np, ns, nl, nu⟩ _ HG4.out HW.out).mono ?_
          rintro e w5 ⟨rfl, hf5⟩
          have HG5 := Lib.hid (HG4.out.fr0 hf5)
          have Hfo5 := Lib.hid (Hfo4.out.trans0 hf5)
          have HTB5 := Lib.hid (HTB4.out.fr hf5 fun h => h)
          have HRB5 := Lib.hid (HRB4.out.fr hf5 fun h => h)
          clear hf5 HG4 Hfo4 HTB4 HRB4 t0 t1 t2 t3 t4 t5 HG3 HTB3 Hfo3
          generalize hs3 : w3.heap.size = s3 at *
          have t1 := HTB5.out.cell 1
          have t2 := HTB5.out.cell 2
          have t3 := HTB5.out.cell 3
          have t4 := HTB5.out.cell 4
          have t5 := HTB5.out.cell 5
          simp only [List.getElem?_cons_zero, List.getElem?_cons_succ] at t1 t2 t3 t4 t5
          go_wp2_with fail
          refine (enter_any gb bm c M tw ⟨np, ns, nl, nu⟩ w5 HG5.out HW.out tow (by omega)).mono ?_
          rintro e w6 ⟨rfl, hg6, hf6⟩
          have HG6 := Lib.hid hg6
          have Hf6 : Hid (Fr w1 w6 (fun j => j = bm)) := (Hf.out.trans0 Hfo5.out).transS hf6
          have HI6 := Lib.hid (HI.out.enter (n := ⟨np, ns, nl, nu⟩) tow)
          have hml6 := enter_len c M tw ⟨np, ns, nl, nu⟩
          have hb6 := HRB5.out.fr hf6 (by have := HG4b.out; omega)
          have HRB6 := Lib.hid hb6
          have hcod := enter_codes c M tw ⟨np, ns, nl, nu⟩
          clear hg6 hf6 hb6 t1 t2 t3 t4 t5 HG5 Hfo5 HTB5 HRB5
          generalize enterC c M tw ⟨np, ns, nl, nu⟩ = fc at *
          generalize hM6 : enterM c M tw ⟨np, ns, nl, nu⟩ = M6 at *
          generalize mayP c M ⟨np, ns, nl, nu⟩ = mb at *
          have HM6 := Lib.hid hM6
          clear hM6
          rcases hcod with ⟨rfl, rfl⟩ | ⟨rfl, rfl, hME⟩ | ⟨rfl, hME⟩
          · go_wp2_with fail
            go_quiet (fail)
            go_wp2_with fail
            go_meet
            case rel => exact ⟨M6, HG6.out.fr0 ((Fr.refl _ Nil).drewN _), HI6.out, by omega, Hf6.out.drewN _⟩
          · subst hME
            have u0 := HRB6.out.cell 0
            have u1 := HRB6.out.cell 1
            have u2 := HRB6.out.cell 2
            simp only [List.getElem?_cons_zero, List.getElem?_cons_succ] at u0 u1 u2
            have k0 := KeptF.cell u0
            have k1 := KeptF.cell u1
            have k2 := KeptF.cell u2
            go_wp2_with fail
            refine wp_region_sink 29 (KeptF w6) (by kernel_rfl) ?_
            have hSa : KeptF w6 w6.drew := KeptF.start _
            refine wpAnyS_take (i := 0) (v := ?_) rfl (by kernel_rfl) (fun _ _ _ h => h) (by rfl) hSa ?_ ?_
            rotate_left
            · intro w' hS'
              (try dsimp only at hS')
              go_simp <;> with_reducible rfl
            try simp only [Act.put, List.setIfInBounds_toArray, List.set_cons_zero, List.set_cons_succ]
            refine wpAnyS_take (i := 1) (v := ?_) rfl (by kernel_rfl) (fun _ _ _ h => h) (by rfl) hSa ?_ ?_
            rotate_left
            · intro w' hS'
              (try dsimp only at hS')
              go_simp <;> with_reducible rfl
            try simp only [Act.put, List.setIfInBounds_toArray, List.set_cons_zero, List.set_cons_succ]
            refine wpAnyS_take (i := 2) (v := ?_) rfl (by kernel_rfl) (fun _ _ _ h => h) (by rfl) hSa ?_ ?_
            rotate_left
            · intro w' hS'
              (try dsimp only at hS')
              go_simp <;> with_reducible rfl
            try simp only [Act.put, List.setIfInBounds_toArray, List.set_cons_zero, List.set_cons_succ]
            refine wpAnyS_skip (i := 3) rfl (by kernel_rfl) (fun _ _ _ h => h) (by rfl) hSa ?_
            try simp only [Act.put, List.setIfInBounds_toArray, List.set_cons_zero, List.set_cons_succ]
            refine wpAnyS_skip (i := 4) rfl (by kernel_rfl) (fun _ _ _ h => h) (by rfl) hSa ?_
            try simp only [Act.put, List.setIfInBounds_toArray, List.set_cons_zero, List.set_cons_succ]
            refine wpAnyS_take (i := 5) (v := ?_) rfl (by kernel_rfl) (fun _ _ _ h => h) (by rfl) hSa ?_ ?_
            rotate_left
            · intro w' hS'
              (try dsimp only at hS')
              go_simp <;> with_reducible rfl
            try simp only [Act.put, List.setIfInBounds_toArray, List.set_cons_zero, List.set_cons_succ]
            refine wpAnyS_take (i := 6) (v := ?_) rfl (by kernel_rfl) (fun _ _ _ h => h) (by rfl) hSa ?_ ?_
            rotate_left
            · intro w' hS'
              (try dsimp only at hS')
              go_simp <;> with_reducible rfl
            try simp only [Act.put, List.setIfInBounds_toArray, List.set_cons_zero, List.set_cons_succ]
            refine wpAnyS_take (i := 7) (v := ?_) rfl (by kernel_rfl) (fun _ _ _ h => h) (by rfl) hSa ?_ ?_
            rotate_left
            · intro w' hS'
              (try dsimp only at hS')
              go_simp <;> with_reducible rfl
            try simp only [Act.put, List.setIfInBounds_toArray, List.set_cons_zero, List.set_cons_succ]
            refine wpAnyS_take (i := 8) (v := ?_) rfl (by kernel_rfl) (fun _ _ _ h => h) (by rfl) hSa ?_ ?_
            rotate_left
            · intro w' hS'
              (try dsimp only at hS')
              go_simp <;> with_reducible rfl
            try simp only [Act.put, List.setIfInBounds_toArray, List.set_cons_zero, List.set_cons_succ]
            refine wpAnyS_take (i := 9) (v := ?_) rfl (by kernel_rfl) (fun _ _ _ h => h) (by rfl) hSa ?_ ?_
            rotate_left
            · intro w' hS'
              (try dsimp only at hS')
              go_simp <;> with_reducible rfl
            try simp only [Act.put, List.setIfInBounds_toArray, List.set_cons_zero, List.set_cons_succ]
            refine wpAnyS_take (i := 10) (v := ?_) rfl (by kernel_rfl) (fun _ _ _ h => h) (by rfl) hSa ?_ ?_
            rotate_left
            · intro w' hS'
              (try dsimp only at hS')
              go_simp <;> with_reducible rfl
            try simp only [Act.put, List.setIfInBounds_toArray, List.set_cons_zero, List.set_cons_succ]
            refine wpAnyS_take (i := 11) (v := ?_) rfl (by kernel_rfl) (fun _ _ _ h => h) (by rfl) hSa ?_ ?_
            rotate_left
            · intro w' hS'
              (try dsimp only at hS')
              go_simp <;> with_reducible rfl
            try simp only [Act.put, List.setIfInBounds_toArray, List.set_cons_zero, List.set_cons_succ]
            refine wpAnyS_take (i := 12) (v := ?_) rfl (by kernel_rfl) (fun _ _ _ h => h) (by rfl) hSa ?_ ?_
            rotate_left
            · intro w' hS'
              (try dsimp only at hS')
              go_simp <;> with_reducible rfl
            try simp only [Act.put, List.setIfInBounds_toArray, List.set_cons_zero, List.set_cons_succ]
            refine wpAnyS_take (i := 13) (v := ?_) rfl (by kernel_rfl) (fun _ _ _ h => h) (by rfl) hSa ?_ ?_
            rotate_left
            · intro w' hS'
              (try dsimp only at hS')
              go_simp <;> with_reducible rfl
            try simp only [Act.put, List.setIfInBounds_toArray, List.set_cons_zero, List.set_cons_succ]
            refine wpAnyS_take (i := 14) (v := ?_) rfl (by kernel_rfl) (fun _ _ _ h => h) (by rfl) hSa ?_ ?_
            rotate_left
            · intro w' hS'
              (try dsimp only at hS')
              go_simp <;> with_reducible rfl
            try simp only [Act.put, List.setIfInBounds_toArray, List.set_cons_zero, List.set_cons_succ]
            refine wpAnyS_take (i := 15) (v := ?_) rfl (by kernel_rfl) (fun _ _ _ h => h) (by rfl) hSa ?_ ?_
            rotate_left
            · intro w' hS'
              (try dsimp only at hS')
              go_simp <;> with_reducible rfl
            try simp only [Act.put, List.setIfInBounds_toArray, List.set_cons_zero, List.set_cons_succ]
            refine wpAnyS_take (i := 16) (v := ?_) rfl (by kernel_rfl) (fun _ _ _ h => h) (by rfl) hSa ?_ ?_
            rotate_left
            · intro w' hS'
              (try dsimp only at hS')
              go_simp <;> with_reducible rfl
            try simp only [Act.put, List.setIfInBounds_toArray, List.set_cons_zero, List.set_cons_succ]
            refine wpAnyS_take (i := 17) (v := ?_) rfl (by kernel_rfl) (fun _ _ _ h => h) (by rfl) hSa ?_ ?_
            rotate_left
            · intro w' hS'
              (try dsimp only at hS')
              go_simp <;> with_reducible rfl
            try simp only [Act.put, List.setIfInBounds_toArray, List.set_cons_zero, List.set_cons_succ]
            refine wpAnyS_take (i := 19) (v := ?_) rfl (by kernel_rfl) (fun _ _ _ h => h) (by rfl) hSa ?_ ?_
            rotate_left
            · intro w' hS'
              have ck0 := k0 _ hS'
              have ck1 := k1 _ hS'
              have ck2 := k2 _ hS'
              go_simp <;> with_reducible rfl
            try simp only [Act.put, List.setIfInBounds_toArray, List.set_cons_zero, List.set_cons_succ]
            refine wpAnyS_one (i := 18) rfl (by kernel_rfl) (by decide) (by rfl) fun K hK => ?_
            go_simp
            refine (room_any gb bm c M6 _ (HG6.out.fr0 hSa.fr) HW.out).mono ?_
            rintro e w7 ⟨rfl, hf7⟩
            rw [HR.out]
            have hSb := hSa.next hf7
            refine hK.out _ _ hSb ?_
            clear hK K
            try simp only [Act.put, List.setIfInBounds_toArray, List.set_cons_zero, List.set_cons_succ]
            refine wpAnyS_take (i := 20) (v := ?_) rfl (by kernel_rfl) (fun _ _ _ h => h) (by rfl) hSb ?_ ?_
            rotate_left
            · intro w' hS'
              (try dsimp only at hS')
              go_simp <;> with_reducible rfl
            try simp only [Act.put, List.setIfInBounds_toArray, List.set_cons_zero, List.set_cons_succ]
            refine wpAnyS_take (i := 21) (v := ?_) rfl (by kernel_rfl) (fun _ _ _ h => h) (by rfl) hSb ?_ ?_
            rotate_left
            · intro w' hS'
              (try dsimp only at hS')
              go_simp <;> with_reducible rfl
            try simp only [Act.put, List.setIfInBounds_toArray, List.set_cons_zero, List.set_cons_succ]
            refine wpAnyS_take (i := 22) (v := ?_) rfl (by kernel_rfl) (fun _ _ _ h => h) (by rfl) hSb ?_ ?_
            rotate_left
            · intro w' hS'
              (try dsimp only at hS')
              go_simp <;> with_reducible rfl
            try simp only [Act.put, List.setIfInBounds_toArray, List.set_cons_zero, List.set_cons_succ]
            refine wpAnyS_take (i := 25) (v := ?_) rfl (by kernel_rfl) (fun _ _ _ h => h) (by rfl) hSb ?_ ?_
            rotate_left
            · intro w' hS'
              (try dsimp only at hS')
              go_simp <;> with_reducible rfl
            try simp only [Act.put, List.setIfInBounds_toArray, List.set_cons_zero, List.set_cons_succ]
            refine wpAnyS_one (i := 23) rfl (by kernel_rfl) (by decide) (by rfl) fun K hK => ?_
            go_simp
            refine (in_any gb bm c M6 _ (HG6.out.fr0 hSb.fr) (by omega)).mono ?_
            rintro e w8 ⟨vv, rfl, hvv, _, hf8⟩
            obtain ⟨vva, vvc, rfl⟩ := hvv.shape
            rw [keysOf_len]
            have hS5 := hSb.next hf8
            refine hK.out _ _ hS5 ?_
            clear hK K
            try simp only [Act.put, List.setIfInBounds_toArray, List.set_cons_zero, List.set_cons_succ]
            refine wpAnyS_take (i := 24) (v := ?_) rfl (by kernel_rfl) (fun _ _ _ h => h) (by rfl) hS5 ?_ ?_
            rotate_left
            · intro w' hS'
              (try dsimp only at hS')
              go_simp <;> with_reducible rfl
            try simp only [Act.put, List.setIfInBounds_toArray, List.set_cons_zero, List.set_cons_succ]
            refine wpAnyS_take (i := 26) (v := ?_) rfl (by kernel_rfl) (fun _ _ _ h => h) (by rfl) hS5 ?_ ?_
            rotate_left
            · intro w' hS'
              (try dsimp only at hS')
              go_simp <;> with_reducible rfl
            try simp only [Act.put, List.setIfInBounds_toArray, List.set_cons_zero, List.set_cons_succ]
            refine wpAnyS_take (i := 27) (v := ?_) rfl (by kernel_rfl) (fun _ _ _ h => h) (by rfl) hS5 ?_ ?_
            rotate_left
            · intro w' hS'
              (try dsimp only at hS')
              go_simp <;> with_reducible rfl
            try simp only [Act.put, List.setIfInBounds_toArray, List.set_cons_zero, List.set_cons_succ]
            refine wpAnyS_take (i := 28) (v := ?_) rfl (by kernel_rfl) (fun _ _ _ h => h) (by rfl) hS5 ?_ ?_
            rotate_left
            · intro w' hS'
              (try dsimp only at hS')
              go_simp <;> with_reducible rfl
            try simp only [Act.put, List.setIfInBounds_toArray, List.set_cons_zero, List.set_cons_succ]
            refine wpAnyS_last (i := 29) rfl (by kernel_rfl) (by decide) (by kernel_rfl) (by rfl) fun K hK => ?_
            go_simp
            refine hK.out _ _ ?_
            clear hK K
            have HG7 := Lib.hid (HG6.out.fr0 hS5.fr)
            have Hf7 := Lib.hid (Hf6.out.trans0 hS5.fr)
            clear hS5 hSb hSa hf7 hf8 hvv u0 u1 u2 k0 k1 k2
            go_wp2_with fail
            go_meet
            case rel => exact ⟨M6, HG7.out, HI6.out, by omega, Hf7.out⟩
          · subst hME
            have u0 := HRB6.out.cell 0
            have u1 := HRB6.out.cell 1
            have u2 := HRB6.out.cell 2
            simp only [List.getElem?_cons_zero, List.getElem?_cons_succ] at u0 u1 u2
            have k0 := KeptF.cell u0
            have k1 := KeptF.cell u1
            have k2 := KeptF.cell u2
            go_wp2_with fail
            refine wp_region_sink 29 (KeptF w6) (by kernel_rfl) ?_
            have hSa : KeptF w6 w6.drew := KeptF.start _
            refine wpAnyS_take (i := 0) (v := ?_) rfl (by kernel_rfl) (fun _ _ _ h => h) (by rfl) hSa ?_ ?_
            rotate_left
            · intro w' hS'
              (try dsimp only at hS')
              go_simp <;> with_reducible rfl
            try simp only [Act.put, List.setIfInBounds_toArray, List.set_cons_zero, List.set_cons_succ]
            refine wpAnyS_take (i := 1) (v := ?_) rfl (by kernel_rfl) (fun _ _ _ h => h) (by rfl) hSa ?_ ?_
            rotate_left
            · intro w' hS'
              (try dsimp only at hS')
              go_simp <;> with_reducible rfl
            try simp only [Act.put, List.setIfInBounds_toArray, List.set_cons_zero, List.set_cons_succ]
            refine wpAnyS_take (i := 2) (v := ?_) rfl (by kernel_rfl) (fun _ _ _ h => h) (by rfl) hSa ?_ ?_
            rotate_left
            · intro w' hS'
              (try dsimp only at hS')
              go_simp <;> with_reducible rfl
            try simp only [Act.put, List.setIfInBounds_toArray, List.set_cons_zero, List.set_cons_succ]
            refine wpAnyS_skip (i := 3) rfl (by kernel_rfl) (fun _ _ _ h => h) (by rfl) hSa ?_
            try simp only [Act.put, List.setIfInBounds_toArray, List.set_cons_zero, List.set_cons_succ]
            refine wpAnyS_skip (i := 4) rfl (by kernel_rfl) (fun _ _ _ h => h) (by rfl) hSa ?_
            try simp only [Act.put, List.setIfInBounds_toArray, List.set_cons_zero, List.set_cons_succ]
            refine wpAnyS_take (i := 5) (v := ?_) rfl (by kernel_rfl) (fun _ _ _ h => h) (by rfl) hSa ?_ ?_
            rotate_left
            · intro w' hS'
              (try dsimp only at hS')
              go_simp <;> with_reducible rfl
            try simp only [Act.put, List.setIfInBounds_toArray, List.set_cons_zero, List.set_cons_succ]
            refine wpAnyS_take (i := 6) (v := ?_) rfl (by kernel_rfl) (fun _ _ _ h => h) (by rfl) hSa ?_ ?_
            rotate_left
            · intro w' hS'
              (try dsimp only at hS')
              go_simp <;> with_reducible rfl
            try simp only [Act.put, List.setIfInBounds_toArray, List.set_cons_zero, List.set_cons_succ]
            refine wpAnyS_take (i := 7) (v := ?_) rfl (by kernel_rfl) (fun _ _ _ h => h) (by rfl) hSa ?_ ?_
            rotate_left
            · intro w' hS'
              (try dsimp only at hS')
              go_simp <;> with_reducible rfl
            try simp only [Act.put, List.setIfInBounds_toArray, List.set_cons_zero, List.set_cons_succ]
            refine wpAnyS_take (i := 8) (v := ?_) rfl (by kernel_rfl) (fun _ _ _ h => h) (by rfl) hSa ?_ ?_
            rotate_left
            · intro w' hS'
              (try dsimp only at hS')
              go_simp <;> with_reducible rfl
            try simp only [Act.put, List.setIfInBounds_toArray, List.set_cons_zero, List.set_cons_succ]
            refine wpAnyS_take (i := 9) (v := ?_) rfl (by kernel_rfl) (fun _ _ _ h => h) (by rfl) hSa ?_ ?_
            rotate_left
            · intro w' hS'
              (try dsimp only at hS')
              go_simp <;> with_reducible rfl
            try simp only [Act.put, List.setIfInBounds_toArray, List.set_cons_zero, List.set_cons_succ]
            refine wpAnyS_skip (i := 10) rfl (by kernel_rfl) (fun _ _ _ h => h) (by rfl) hSa ?_
            try simp only [Act.put, List.setIfInBounds_toArray, List.set_cons_zero, List.set_cons_succ]
            refine wpAnyS_take (i := 11) (v := ?_) rfl (by kernel_rfl) (fun _ _ _ h => h) (by rfl) hSa ?_ ?_
            rotate_left
            · intro w' hS'
              (try dsimp only at hS')
              go_simp <;> with_reducible rfl
            try simp only [Act.put, List.setIfInBounds_toArray, List.set_cons_zero, List.set_cons_succ]
            refine wpAnyS_take (i := 12) (v := ?_) rfl (by kernel_rfl) (fun _ _ _ h => h) (by rfl) hSa ?_ ?_
            rotate_left
            · intro w' hS'
              (try dsimp only at hS')
              go_simp <;> with_reducible rfl
            try simp only [Act.put, List.setIfInBounds_toArray, List.set_cons_zero, List.set_cons_succ]
            refine wpAnyS_take (i := 13) (v := ?_) rfl (by kernel_rfl) (fun _ _ _ h => h) (by rfl) hSa ?_ ?_
            rotate_left
            · intro w' hS'
              (try dsimp only at hS')
              go_simp <;> with_reducible rfl
            try simp only [Act.put, List.setIfInBounds_toArray, List.set_cons_zero, List.set_cons_succ]
            refine wpAnyS_take (i := 14) (v := ?_) rfl (by kernel_rfl) (fun _ _ _ h => h) (by rfl) hSa ?_ ?_
            rotate_left
            · intro w' hS'
              (try dsimp only at hS')
              go_simp <;> with_reducible rfl
            try simp only [Act.put, List.setIfInBounds_toArray, List.set_cons_zero, List.set_cons_succ]
            refine wpAnyS_take (i := 15) (v := ?_) rfl (by kernel_rfl) (fun _ _ _ h => h) (by rfl) hSa ?_ ?_
            rotate_left
            · intro w' hS'
              (try dsimp only at hS')
              go_simp <;> with_reducible rfl
            try simp only [Act.put, List.setIfInBounds_toArray, List.set_cons_zero, List.set_cons_succ]
            refine wpAnyS_take (i := 16) (v := ?_) rfl (by kernel_rfl) (fun _ _ _ h => h) (by rfl) hSa ?_ ?_
            rotate_left
            · intro w' hS'
              (try dsimp only at hS')
              go_simp <;> with_reducible rfl
            try simp only [Act.put, List.setIfInBounds_toArray, List.set_cons_zero, List.set_cons_succ]
            refine wpAnyS_take (i := 17) (v := ?_) rfl (by kernel_rfl) (fun _ _ _ h => h) (by rfl) hSa ?_ ?_
            rotate_left
            · intro w' hS'
              (try dsimp only at hS')
              go_simp <;> with_reducible rfl
            try simp only [Act.put, List.setIfInBounds_toArray, List.set_cons_zero, List.set_cons_succ]
            refine wpAnyS_take (i := 19) (v := ?_) rfl (by kernel_rfl) (fun _ _ _ h => h) (by rfl) hSa ?_ ?_
            rotate_left
            · intro w' hS'
              have ck0 := k0 _ hS'
              have ck1 := k1 _ hS'
              have ck2 := k2 _ hS'
              go_simp <;> with_reducible rfl
            try simp only [Act.put, List.setIfInBounds_toArray, List.set_cons_zero, List.set_cons_succ]
            refine wpAnyS_one (i := 18) rfl (by kernel_rfl) (by decide) (by rfl) fun K hK => ?_
            go_simp
            refine (room_any gb bm c M6 _ (HG6.out.fr0 hSa.fr) HW.out).mono ?_
            rintro e w7 ⟨rfl, hf7⟩
            rw [HR.out]
            have hSb := hSa.next hf7
            refine hK.out _ _ hSb ?_
            clear hK K
            try simp only [Act.put, List.setIfInBounds_toArray, List.set_cons_zero, List.set_cons_succ]
            refine wpAnyS_take (i := 20) (v := ?_) rfl (by kernel_rfl) (fun _ _ _ h => h) (by rfl) hSb ?_ ?_
            rotate_left
            · intro w' hS'
              (try dsimp only at hS')
              go_simp <;> with_reducible rfl
            try simp only [Act.put, List.setIfInBounds_toArray, List.set_cons_zero, List.set_cons_succ]
            refine wpAnyS_take (i := 21) (v := ?_) rfl (by kernel_rfl) (fun _ _ _ h => h) (by rfl) hSb ?_ ?_
            rotate_left
            · intro w' hS'
              (try dsimp only at hS')
              go_simp <;> with_reducible rfl
            try simp only [Act.put, List.setIfInBounds_toArray, List.set_cons_zero, List.set_cons_succ]
            refine wpAnyS_take (i := 22) (v := ?_) rfl (by kernel_rfl) (fun _ _ _ h => h) (by rfl) hSb ?_ ?_
            rotate_left
            · intro w' hS'
              (try dsimp only at hS')
              go_simp <;> with_reducible rfl
            try simp only [Act.put, List.setIfInBounds_toArray, List.set_cons_zero, List.set_cons_succ]
            refine wpAnyS_take (i := 25) (v := ?_) rfl (by kernel_rfl) (fun _ _ _ h => h) (by rfl) hSb ?_ ?_
            rotate_left
            · intro w' hS'
              (try dsimp only at hS')
              go_simp <;> with_reducible rfl
            try simp only [Act.put, List.setIfInBounds_toArray, List.set_cons_zero, List.set_cons_succ]
            refine wpAnyS_one (i := 23) rfl (by kernel_rfl) (by decide) (by rfl) fun K hK => ?_
            go_simp
            refine (in_any gb bm c M6 _ (HG6.out.fr0 hSb.fr) (by omega)).mono ?_
            rintro e w8 ⟨vv, rfl, hvv, _, hf8⟩
            obtain ⟨vva, vvc, rfl⟩ := hvv.shape
            rw [keysOf_len]
            have hS5 := hSb.next hf8
            refine hK.out _ _ hS5 ?_
            clear hK K
            try simp only [Act.put, List.setIfInBounds_toArray, List.set_cons_zero, List.set_cons_succ]
            refine wpAnyS_take (i := 24) (v := ?_) rfl (by kernel_rfl) (fun _ _ _ h => h) (by rfl) hS5 ?_ ?_
            rotate_left
            · intro w' hS'
              (try dsimp only at hS')
              go_simp <;> with_reducible rfl
            try simp only [Act.put, List.setIfInBounds_toArray, List.set_cons_zero, List.set_cons_succ]
            refine wpAnyS_take (i := 26) (v := ?_) rfl (by kernel_rfl) (fun _ _ _ h => h) (by rfl) hS5 ?_ ?_
            rotate_left
            · intro w' hS'
              (try dsimp only at hS')
              go_simp <;> with_reducible rfl
            try simp only [Act.put, List.setIfInBounds_toArray, List.set_cons_zero, List.set_cons_succ]
            refine wpAnyS_take (i := 27) (v := ?_) rfl (by kernel_rfl) (fun _ _ _ h => h) (by rfl) hS5 ?_ ?_
            rotate_left
            · intro w' hS'
              (try dsimp only at hS')
              go_simp <;> with_reducible rfl
            try simp only [Act.put, List.setIfInBounds_toArray, List.set_cons_zero, List.set_cons_succ]
            refine wpAnyS_take (i := 28) (v := ?_) rfl (by kernel_rfl) (fun _ _ _ h => h) (by rfl) hS5 ?_ ?_
            rotate_left
            · intro w' hS'
              (try dsimp only at hS')
              go_simp <;> with_reducible rfl
            try simp only [Act.put, List.setIfInBounds_toArray, List.set_cons_zero, List.set_cons_succ]
            refine wpAnyS_last (i := 29) rfl (by kernel_rfl) (by decide) (by kernel_rfl) (by rfl) fun K hK => ?_
            go_simp
            refine hK.out _ _ ?_
            clear hK K
            have HG7 := Lib.hid (HG6.out.fr0 hS5.fr)
            have Hf7 := Lib.hid (Hf6.out.trans0 hS5.fr)
            clear hS5 hSb hSa hf7 hf8 hvv u0 u1 u2 k0 k1 k2
            go_wp2_with fail
            go_meet
            case rel => exact ⟨M6, HG7.out, HI6.out, by omega, Hf7.out⟩
      case rest =>
        obtain ⟨M', hg6, hi6, hml6, hf6⟩ := hcut
        have HG6 := Lib.hid hg6
        have HI6 := Lib.hid hi6
        have Hf6 := Lib.hid hf6
        clear hg6 hi6 hf6 HG4b HG4 Hfo4 HTB4 HRB4 t0 t1 t2 t3 t4 t5 HG3 HTB3 Hfo3 hkd2 HI HR HSO Hf
        have HBt := Lib.hid (HB1.out.fr Hf6.out (by have := HN.out; omega))
        have HFt : Hid (Fr w wc Nil) := HF1.out.trans Hf6.out fun j hj e => absurd hj (by have := HN.out; have := HS.out; omega)
        have q0 := HBt.out.cell 0
        have q1 := HBt.out.cell 1
        have q2 := HBt.out.cell 2
        simp only [List.getElem?_cons_zero, List.getElem?_cons_succ] at q0 q1 q2
        have k0 := KeptF.cell q1
        have k1 := KeptF.cell q2
        go_wp2_with fail
        go_region_held3 (KeptF wc) (first | exact hS5 | exact KeptF.start _ | go_keep)
          (first | (go_at_call 12; have hfx : KeptF wc _ := (by assumption); refine (in_any gb bm c M' _ (HG6.out.fr0 hfx.fr) (by omega)).mono ?_; rintro e w7 ⟨vv, rfl, hvv, hvn, hf7⟩; obtain ⟨vva, vvc, rfl⟩ := hvv.shape; have hS5 := hfx.next hf7))
        have HV7 := Lib.hid hvv.at
        have HG7 := Lib.hid (HG6.out.fr0 hS5.fr)
        have HF7 := Lib.hid (HFt.out.trans0 hS5.fr)
        have Hf7 := Lib.hid (Hf6.out.trans0 hS5.fr)
        have hb7 := HBt.out.fr hS5.fr fun h => h
        have HKH := Lib.hid (fun (i : Nat) (x : Int) (hx : (keysOf M')[i]? = some x) => keysOf_has hx)
        have HKN := Lib.hid (keysOf_nodup HI6.out)
        have HSL := Lib.hid (fun i => sumK_take HI6.out Nd.l (fun n hn => (Nd.may_iff.1 hn).2.1.1) i)
        have HSU := Lib.hid (fun i => sumK_take HI6.out Nd.u (fun n hn => (Nd.may_iff.1 hn).2.2.1) i)
        have HSS := Lib.hid (fun (p : Nd → Int) (i : Nat) (x : Int) (hx : (keysOf M')[i]? = some x) => sumK_succ p hx)
        have hkl := keysOf_len M'
        have hnn : ¬ c.n < ((M'.length : Nat) : Int) := by have := HI6.out.n; omega
        have hcm := CapD.may_iff.1 HM.out
        have hil := HI6.out.l
        have hiu := HI6.out.u
        rw [← hkl] at hnn
        clear hvv hvn hf7 hS5 q0 q1 q2 k0 k1 HFt HBt
        generalize keysOf M' = ks at *
        have q0 := hb7.cell 0
        simp only [List.getElem?_cons_zero] at q0
        clear hb7
        go_wp2_with fail
        go_loopw [14, 15, 16, 17, 18, 19, 20, 21] (fun va vb vi _ _ _ _ _ wq => ∃ (i : Nat) (a b : Int), i ≤ ks.length ∧ vi = .int .i64 i ∧ va = .int .i64 a ∧ vb = .int .i64 b ∧ a = c.l - sumK Nd.l M' (ks.take i) ∧ b = c.u - sumK Nd.u M' (ks.take i) ∧ Fr w7 wq Nil) (fun _ _ vi _ _ _ _ _ _ => ks.length - (intOf vi).toNat)
        case atStart => exact ⟨0, c.l, c.u, by omega, rfl, rfl, rfl, by simp [sumK], by simp [sumK], Fr.refl _ _⟩
        case round =>
          clear q0
          obtain ⟨i, a, b, hi, rfl, rfl, rfl, ha, hb, hfq⟩ := hrel
          have Hfq := Lib.hid hfq
          have HA := Lib.hid ha
          have HBb := Lib.hid hb
          clear hfq
          by_cases hlti : i < ks.length
          · obtain ⟨xb, xoff, xcap, hxv, hxc⟩ := (fr0i HV7.out Hfq.out).form (by omega)
            simp only [Value.slice.injEq, true_and] at hxv
            obtain ⟨rfl, rfl⟩ := hxv
            have hgx := List.getElem?_eq_getElem hlti
            generalize hx : ks[i] = x at hgx
            have e0 := hxc i x hgx
            have HGX := Lib.hid hgx
            have HHX := Lib.hid (HKH.out i x hgx)
            have hmx := (HI6.out.nd HHX.out).2
            have hl1 := HSS.out Nd.l i x hgx
            have hu1 := HSS.out Nd.u i x hgx
            have hl2 := (HSL.out (i + 1)).2
            have hl3 := (HSL.out i).1
            have hu2 := (HSU.out (i + 1)).2
            have hu3 := (HSU.out i).1
            rw [hl1] at hl2
            rw [hu1] at hu2
            have HL1 := Lib.hid hl1
            have HU1 := Lib.hid hu1
            obtain ⟨m1, m2, m3, m4, hgv⟩ : ∃ m1 m2 m3 m4, getV M' x zeroN = ⟨m1, m2, m3, m4⟩ := ⟨_, _, _, _, rfl⟩
            rw [hgv] at hmx hl2 hu2
            have HGV := Lib.hid hgv
            have hmi := (Nd.may_iff (n := ⟨m1, m2, m3, m4⟩)).1 hmx
            simp only at hmi hl2 hu2
            have ha0 : 0 ≤ a - m3 ∧ a ≤ 4611686018427387904 := by omega
            have hb0 : 0 ≤ b - m4 ∧ b ≤ 4611686018427387904 := by omega
            have hm30 : 0 ≤ m3 := hmi.2.1.1
            have hm40 : 0 ≤ m4 := hmi.2.2.1
            have hii : (i : Int) < (ks.length : Int) := by omega
            have hwa : wrap64 (a - m3) = a - m3 := by unfold wrap64; omega
            have hwb : wrap64 (b - m4) = b - m4 := by unfold wrap64; omega
            have HGq := Lib.hid (HG7.out.fr0 Hfq.out)
            have HXW := Lib.hid (HI6.out.key_wf HHX.out)
            obtain ⟨wq0, rfl⟩ : ∃ wq0 : World, wq0 = wr := ⟨_, rfl⟩
            clear hxc hgx hx hmx hl1 hu1 hl2 hl3 hu2 hu3 hgv hmi ha hb
            go_wp2_with fail
            refine (of_any gb bm c M' x wq0 HGq.out HXW.out).mono ?_
            rintro e w8 ⟨rfl, hf8⟩
            rw [HGV.out]
            have HG8 := Lib.hid (HGq.out.fr0 hf8)
            have Hf8 := Lib.hid (Hfq.out.trans0 hf8)
            have hb8 := bk_at w8 27 #[.int .i64 m1, .bool m2, .int .i64 m3, .int .i64 m4] _ rfl
            have HB8 := Lib.hid hb8
            generalize (List.map Prod.fst M').contains x = bo
            clear hf8 HGq e0 hb8
            go_wp2_with fail
            have HG9 := Lib.hid (HG8.out.fr0 ((Fr.refl w8 Nil).alloc (.cells #[.int .i64 m1, .bool m2, .int .i64 m3, .int .i64 m4] 27)))
            have Hf9 := Lib.hid (Hf8.out.alloc (.cells #[.int .i64 m1, .bool m2, .int .i64 m3, .int .i64 m4] 27))
            generalize w8.alloc (.cells #[.int .i64 m1, .bool m2, .int .i64 m3, .int .i64 m4] 27) = w9 at *
            generalize w8.heap.size = s8 at *
            clear HG8 Hf8
            go_loopw [19, 20, 21] (fun vj _ _ wz => ∃ j : Nat, j ≤ i ∧ vj = .int .i64 j ∧ Fr w9 wz Nil) (fun vj _ _ _ => i - (intOf vj).toNat)
            case atStart => exact ⟨0, by omega, rfl, Fr.refl _ _⟩
            case round =>
              obtain ⟨j, hj, rfl, hfz⟩ := hrel
              have Hfz := Lib.hid hfz
              have hbz := HB8.out.fr hfz fun h => h
              have b0 := hbz.cell 0
              have b1 := hbz.cell 1
              have b2 := hbz.cell 2
              have b3 := hbz.cell 3
              simp only [List.getElem?_cons_zero, List.getElem?_cons_succ] at b0 b1 b2 b3
              have HBz := Lib.hid hbz
              obtain ⟨wz0, rfl⟩ : ∃ wz0 : World, wz0 = wr := ⟨_, rfl⟩
              clear hfz hbz
              by_cases hltj : j < i
              · have hjk : j < ks.length := by omega
                obtain ⟨yb, yoff, ycap, hyv, hyc⟩ := (fr0i HV7.out (Hf9.out.trans0 Hfz.out)).form (by omega)
                simp only [Value.slice.injEq, Option.some.injEq, Addr.mk.injEq, true_and, and_true] at hyv
                obtain ⟨⟨rfl, rfl⟩, rfl⟩ := hyv
                have hgy := List.getElem?_eq_getElem hjk
                generalize hy : ks[j] = y at hgy
                have e1 := hyc j y hgy
                have hhy := HKH.out j y hgy
                have hne : y ≠ x := by
                  intro e
                  subst e
                  have h1 := List.getElem?_eq_some_iff.1 HGX.out
                  obtain ⟨h1, h2⟩ := h1
                  have := (List.getElem_inj HKN.out).1 (hy.trans h2.symm)
                  omega
                have hap := HI6.out.two hhy HHX.out hne
                rw [HGV.out] at hap
                obtain ⟨o1, o2, o3, o4, hgo⟩ : ∃ o1 o2 o3 o4, getV M' y zeroN = ⟨o1, o2, o3, o4⟩ := ⟨_, _, _, _, rfl⟩
                rw [hgo] at hap
                simp only at hap
                have HGO := Lib.hid hgo
                have HYW := Lib.hid (HI6.out.key_wf hhy)
                have HGz := Lib.hid (HG9.out.fr0 Hfz.out)
                have hji : (j : Int) < (ks.length : Int) := by omega
                clear hyc hgy hy hhy hne hgo b0 b1 b2 b3
                go_wp2_with fail
                refine (of_any gb bm c M' y wz0 HGz.out HYW.out).mono ?_
                rintro e w10 ⟨rfl, hf10⟩
                rw [HGO.out]
                have Hf10 := Lib.hid (Hfz.out.trans0 hf10)
                have hb10 := (HBz.out.fr hf10 fun h => h).alloc (.cells #[.int .i64 o1, .bool o2, .int .i64 o3, .int .i64 o4] 27)
                have b0 := hb10.cell 0
                have b1 := hb10.cell 1
                simp only [List.getElem?_cons_zero, List.getElem?_cons_succ] at b0 b1
                generalize (List.map Prod.fst M').contains y = bo2
                clear hf10 hb10 HGz HBz e1
                by_cases hoe : o1 = m1
                · subst hoe
                  have hs2 : o2 = false := by
                    cases o2 with
                    | false => rfl
                    | true => exact absurd ⟨rfl, .inl rfl⟩ hap
                  have hs3 : m2 = false := by
                    cases m2 with
                    | false => rfl
                    | true => exact absurd ⟨rfl, .inr rfl⟩ hap
                  subst hs2
                  rw [hs3] at b1
                  clear hap hs3
                  go_wp2_with fail
                  go_roundw
                  case rel => exact ⟨j + 1, by omega, by go_num, Hf10.out.alloc _⟩
                  case measure => simp [intOf]; omega
                · have hob : (o1 == m1) = false := by rw [beq_eq_false_iff_ne]; exact hoe
                  clear hap
                  go_wp2_with fail
                  go_roundw
                  case rel => exact ⟨j + 1, by omega, by go_num, Hf10.out.alloc _⟩
                  case measure => simp [intOf]; omega
              · obtain rfl : j = i := by omega
                have g1 : ¬ a - m3 < 0 := by omega
                have g2 : ¬ b - m4 < 0 := by omega
                have g3 : ¬ m3 < 0 := by omega
                have g4 : ¬ m4 < 0 := by omega
                have HA2 : Hid (a - m3 = c.l - sumK Nd.l M' (ks.take (j + 1))) := by
                  have : a - m3 = c.l - sumK Nd.l M' (ks.take (j + 1)) := by
                    have h1 := HL1.out
                    rw [HGV.out] at h1
                    simp only at h1
                    have h2 := HA.out
                    omega
                  exact this
                have HB2 : Hid (b - m4 = c.u - sumK Nd.u M' (ks.take (j + 1))) := by
                  have : b - m4 = c.u - sumK Nd.u M' (ks.take (j + 1)) := by
                    have h1 := HU1.out
                    rw [HGV.out] at h1
                    simp only at h1
                    have h2 := HBb.out
                    omega
                  exact this
                go_wp2_with fail
                go_roundw
                case rel => exact ⟨j + 1, a - m3, b - m4, by omega, by go_num, by first | rfl | go_num, by first | rfl | go_num, HA2.out, HB2.out, Hf9.out.trans0 Hfz.out⟩
                case measure => simp [intOf]; omega
          · obtain rfl : i = ks.length := by omega
            go_wp2_with fail
            go_roundw
            case rel => exact ⟨k + 1, M', by omega, by go_num, HG7.out.fr0 Hfq.out, HI6.out, (by omega), Hf7.out.trans0 Hfq.out⟩
            case measure => simp [intOf]; omega
    · obtain rfl : k = calls.length := by omega
      go_wp2_with fail
      refine (in_any gb bm c M _ HG.out (by omega)).mono ?_
      rintro e w2 ⟨v, rfl, hv, hvn, hf2⟩
      obtain ⟨va, vcap, rfl⟩ := hv.shape
      have HV := Lib.hid hv.at
      have HVN : Hid (∀ j, (Value.slice va (keysOf M).length vcap).ownBlock = some j → j ≠ bm) := by
        have hbl := HG.out.2.lt
        have : ∀ j, (Value.slice va (keysOf M).length vcap).ownBlock = some j → j ≠ bm := fun j hj => by have := hvn j hj; omega
        exact this
      have HG2 := Lib.hid (HG.out.fr0 hf2)
      have HF2 := Lib.hid (HFw.out.trans0 hf2)
      have HBt := Lib.hid (HB1.out.fr (Hf.out.trans0 hf2) (by have := HN.out; omega))
      have HKN := Lib.hid (keysOf_nodup HI.out)
      have HLS := Lib.hid (Left.start M)
      have HST := Lib.hid (Still.start M)
      have hkl := keysOf_len M
      clear hv hvn hf2 Hf HFw HG HB1 HCS hcc
      generalize keysOf M = ks at *
      go_wp2_with fail
      go_loopw [23] (fun vi wq => ∃ (i : Nat) (M' : List (Int × Nd)), i ≤ ks.length ∧ vi = .int .i64 i ∧ GateAt wq gb bm c M' ∧ Inv c M' ∧ Still M' ks i ∧ Left M' ks i ∧ M'.length ≤ calls.length ∧ Fr w2 wq (fun j => j = bm)) (fun vi _ => ks.length - (intOf vi).toNat)
      case atStart => exact ⟨0, M, by omega, rfl, HG2.out, HI.out, HST.out, HLS.out, by omega, Fr.refl _ _⟩
      case round =>
        clear HG2 HST HLS
        obtain ⟨i, M', hi, rfl, hg, hinv, hst, hls, hml', hf⟩ := hrel
        have HG := Lib.hid hg
        have HI' := Lib.hid hinv
        have HST := Lib.hid hst
        have HLS := Lib.hid hls
        have Hf := Lib.hid hf
        clear hg hinv hst hls hf
        by_cases hlti : i < ks.length
        · obtain ⟨vb, voff, vcap2, hvv, hvc⟩ := (HV.out.fr Hf.out fun j hj h2 => HVN.out j hj h2).form (by omega)
          simp only [Value.slice.injEq, true_and] at hvv
          obtain ⟨rfl, rfl⟩ := hvv
          have hgx := List.getElem?_eq_getElem hlti
          generalize ks[i] = x at *
          have q0 := hvc i x hgx
          have HGX := Lib.hid hgx
          have hii : (i : Int) < (ks.length : Int) := by omega
          have HKX := Lib.hid (HST.out i x (Nat.le_refl _) hgx)
          have HR : Hid (leaveC M' x = 0) := by
            have : leaveC M' x = 0 := by unfold leaveC; rw [HKX.out]; rfl
            exact this
          have HI2 := Lib.hid (HI'.out.leave x)
          have HST2 := Lib.hid (HST.out.leave HKN.out hgx)
          have HLS2 := Lib.hid (HLS.out.leave hgx)
          have HXW := Lib.hid (HI'.out.key_wf HKX.out)
          have hml2 := leave_len M' x
          clear hvc hgx
          go_wp2_with fail
          refine (gleave_any gb bm c M' x _ HG.out HXW.out).mono ?_
          rintro e w5 ⟨rfl, hg5, hf5⟩
          rw [HR.out]
          have HG5 := Lib.hid hg5
          have Hf5 := Lib.hid (Hf.out.transS hf5)
          clear hg5 hf5 q0
          go_wp2_with fail
          go_roundw
          case rel => exact ⟨i + 1, leaveM M' x, by omega, by go_num, HG5.out, HI2.out, HST2.out, HLS2.out, by omega, Hf5.out⟩
          case measure => simp [intOf]; omega
        · obtain rfl : i = ks.length := by omega
          obtain rfl := HLS.out.done
          obtain ⟨wo, rfl⟩ : ∃ wo : World, wo = wr := ⟨_, rfl⟩
          have HFx : Hid (Fr w wo Nil) := HF2.out.trans Hf.out fun j hj e => absurd hj (by have := HN.out; have := HS.out; omega)
          have hbx := HBt.out.fr Hf.out (by have := HN.out; omega)
          have q0 := hbx.cell 0
          have q1 := hbx.cell 1
          have q2 := hbx.cell 2
          simp only [List.getElem?_cons_zero, List.getElem?_cons_succ] at q0 q1 q2
          have k0 := KeptF.cell q0
          have k1 := KeptF.cell q1
          have k2 := KeptF.cell q2
          have HRN : Hid (roomOf c [] = ⟨c.n, c.l, c.u⟩) := room_nil HM.out
          clear hbx
          go_wp2_with fail
          go_region_held3 (KeptF wo) (first | exact hS5 | exact KeptF.start _ | go_keep)
            (first | (go_at_call 17; have hfx : KeptF wo _ := (by assumption); refine (room_any gb bm c [] _ (HG.out.fr0 hfx.fr) HW.out).mono ?_; rintro e w7 ⟨rfl, hf7⟩; rw [HRN.out]; have hS5 := hfx.next hf7) | (go_at_call 12; have hfx : KeptF wo _ := (by assumption); refine (in_any gb bm c [] _ (HG.out.fr0 hfx.fr) (by simp)).mono ?_; rintro e w7 ⟨vv, rfl, hvv, _, hf7⟩; obtain ⟨vva, vvc, rfl⟩ := hvv.shape; rw [keysOf_len, List.length_nil]; have hS5 := hfx.next hf7) | (go_at_call 9; have hfx : KeptF wo _ := (by assumption); refine (works_any _).mono ?_; rintro e w7 ⟨rfl, hf7⟩; have hS5 := hfx.next hf7))
          have HF9 := Lib.hid (HFx.out.trans0 hS5.fr)
          go_wp2_with fail
          go_ret
          exact ⟨rfl, HF9.out⟩
section
variable (c : CapD) (cv : Value) (calls : List CallD) (w : World)
set_option maxRecDepth 100000 in
set_option maxHeartbeats 1000000 in
theorem afits_no (hcs : CallsAt w cv calls) (hm : c.may = false) :
    Calls Try.prog 5 #[c.val, cv] w fun e w' => e = .returned (.bool true) ∧ Fr w w' Nil := by
  obtain ⟨ca, ccap, rfl, hcc⟩ := hcs.shape
  have HM := Lib.hid hm
  clear hcs hm
  go_enter Try.func5, Try.ntmps5
  go_wp2_with fail
  refine (new_no c _ HM.out).mono ?_
  rintro e w1 ⟨rfl, hf⟩
  have HF : Hid (Fr w w1 Nil) := ((Fr.refl w Nil).alloc _).trans0 hf
  clear hf
  go_wp2_with fail
  refine (works_any _).mono ?_
  rintro e w9 ⟨rfl, hf9⟩
  have HF9 := Lib.hid (HF.out.trans0 hf9)
  clear hf9
  go_wp2_with fail
  go_ret
  exact ⟨rfl, HF9.out⟩
set_option maxRecDepth 100000 in
set_option maxHeartbeats 1000000 in
theorem afits_long (hcs : CallsAt w cv calls) (hm : c.may = true) (hl : 80 < calls.length) :
    Calls Try.prog 5 #[c.val, cv] w fun e w' => e = .returned (.bool true) ∧ Fr w w' Nil := by
  obtain ⟨ca, ccap, rfl, hcc⟩ := hcs.shape
  have HM := Lib.hid hm
  clear hcs hm
  go_enter Try.func5, Try.ntmps5
  go_wp2_with fail
  refine (new_yes c _ HM.out).mono ?_
  rintro e w1 ⟨gb, bm, rfl, _, hf, _, _⟩
  have HF : Hid (Fr w w1 Nil) := ((Fr.refl w Nil).alloc _).trans0 hf
  clear hf
  go_wp2_with fail
  refine (works_any _).mono ?_
  rintro e w9 ⟨rfl, hf9⟩
  have HF9 := Lib.hid (HF.out.trans0 hf9)
  clear hf9
  go_wp2_with fail
  go_ret
  exact ⟨rfl, HF9.out⟩
theorem afits_any (hcs : CallsAt w cv calls) :
    Calls Try.prog 5 #[c.val, cv] w fun e w' => e = .returned (.bool true) ∧ Fr w w' Nil := by
  cases hm : c.may with
  | false => exact afits_no c cv calls w hcs hm
  | true =>
    by_cases hl : calls.length ≤ 80
    · exact afits_main c cv calls w hm hcs hl
    · exact afits_long c cv calls w hcs hm (by omega)
end
end Go.Proofs.Ytplebgcgoigigaa
