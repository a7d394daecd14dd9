/-
  The walk of AdmitTurned: it answers true.
  No condition.
-/
import Derived.Test.YtplebgcgoigigaaAdTurned
namespace Go.Proofs.Ytplebgcgoigigaa
open Go Go.RowKit Go.Maps Go.Shelf

set_option maxRecDepth 100000 in
set_option maxHeartbeats 8000000 in
theorem aturned_main (c : CapD) (lv : Value) (l : List Nd) (at_ : Int) (w : World) (hm : c.may = true) (hcs : NeedsAt w lv l) (hl : l.length ≤ 20) (hpos0 : 0 < l.length) (hat : 0 ≤ at_ ∧ at_ < 256) :
    Calls Try.prog 7 #[c.val, lv, .int .u8 at_] w fun e w' => e = .returned (.bool true) ∧ Fr w w' Nil := by
  obtain ⟨la, lcap, rfl, hcc⟩ := hcs.shape
  have HCS := Lib.hid hcs
  have HM := Lib.hid hm
  have HW := Lib.hid (CapD.wf_of hm)
  clear hcs hm
  have hf0 : Fr w (w.alloc (.cells #[.int .i64 c.n, .int .i64 c.l, .int .i64 c.u] 23)) Nil := (Fr.refl w Nil).alloc _
  have hb0 := bk_at w 23 #[.int .i64 c.n, .int .i64 c.l, .int .i64 c.u] _ rfl
  have HF0 := Lib.hid hf0
  have HB0 := Lib.hid hb0
  clear hf0 hb0
  go_enter Try.func7, Try.ntmps7
  go_wp2_with fail
  refine (new_yes c _ HM.out).mono ?_
  rintro e w1 ⟨gb, bm, rfl, hg, hf, hn1, hn2⟩
  have HG := Lib.hid hg
  have hb1 := HB0.out.fr hf fun h => h
  have q0 := hb1.cell 0
  have q1 := hb1.cell 1
  have q2 := hb1.cell 2
  have HF1 := Lib.hid (HF0.out.trans0 hf)
  have hbl := hg.1.lt
  have hml := hg.2.lt
  have HN1 : Hid (w.heap.size ≤ gb ∧ w.heap.size ≤ bm) := by
    have : w.heap.size ≤ gb ∧ w.heap.size ≤ bm := by simp at hn1 hn2; omega
    exact this
  have HL1 : Hid (gb < w1.heap.size ∧ bm < w1.heap.size) := ⟨hbl, hml⟩
  clear hg hf hn1 hn2 hb1 hbl hml
  generalize hs : w.heap.size = sz at *
  have HS := Lib.hid hs
  clear hs
  go_wp2_with fail
  refine (new_yes c _ HM.out).mono ?_
  rintro e w2 ⟨hb, hm, rfl, hh, hf, hn3, hn4⟩
  have HH := Lib.hid hh
  have HG2 := Lib.hid (HG.out.fr0 hf)
  have HF2 := Lib.hid (HF1.out.trans0 hf)
  have HN2 : Hid (hb ≠ gb ∧ hb ≠ bm ∧ hm ≠ gb ∧ hm ≠ bm ∧ sz ≤ hb ∧ sz ≤ hm) := by
    have : hb ≠ gb ∧ hb ≠ bm ∧ hm ≠ gb ∧ hm ≠ bm ∧ sz ≤ hb ∧ sz ≤ hm := by
      have h1 := HL1.out
      have h2 := HF1.out.size
      have h3 := HS.out
      omega
    exact this
  clear hh hf hn3 hn4 HG HF1 q0 q1 q2 HL1 HB0 HF0
  go_wp2_with fail
  go_loopw [11] (fun vi wr => ∃ k : Nat, k ≤ l.length ∧ vi = .int .i64 k ∧ GateAt wr gb bm c (listT l k) ∧ Inv c (listT l k) ∧ Fr w2 wr (fun j => j = bm)) (fun vi _ => l.length - (intOf vi).toNat)
  case atStart => exact ⟨0, by omega, rfl, HG2.out, Inv.nil HM.out, Fr.refl _ _⟩
  case round =>
    clear HG2
    obtain ⟨k, hk, rfl, hg, hi, hf⟩ := hrel
    have HG := Lib.hid hg
    have HI := Lib.hid hi
    have Hf := Lib.hid hf
    have HFw : Hid (Fr w wr Nil) := HF2.out.trans hf fun j hj e => absurd hj (by have := HN1.out; have := HS.out; omega)
    have HKW := Lib.hid (wf_nat k (by omega))
    clear hg hi hf
    by_cases hlt : k < l.length
    · obtain ⟨tb, toff, tcap2, htv, htc⟩ := (HCS.out.fr0 HFw.out).form (by omega)
      simp only [Value.slice.injEq, true_and] at htv
      obtain ⟨rfl, rfl⟩ := htv
      have hgt := List.getElem?_eq_getElem hlt
      have hgd : l.getD k zeroN = l[k] := by simp [List.getD_eq_getElem?_getD, hlt]
      have HSU := Lib.hid (listT_succ l k)
      have HEL : Hid (elemT l k = ((k : Int), l[k])) := by
        have : elemT l k = ((k : Int), l[k]) := by unfold elemT; rw [hgd]
        exact this
      generalize l[k] = t at *
      obtain ⟨p0, p1, p2, p3⟩ := need_cells htc hgt
      have hki : (k : Int) < (l.length : Int) := by omega
      have hml : (listT l k).length ≤ 1000000 := by rw [listT_len]; omega
      clear htc hgt hgd
      go_wp2_with fail
      refine (enter_any gb bm c (listT l k) k t wr HG.out HW.out HKW.out hml).mono ?_
      rintro e w3 ⟨rfl, hg3, hf3⟩
      by_cases h0 : enterC c (listT l k) k t = 0
      · have hy := enter_yes h0
        rw [hy.2.2, ← HEL.out, ← HSU.out] at hg3
        have HG3 := Lib.hid hg3
        have HF3 := Lib.hid (Hf.out.transS hf3)
        have HI3 : Hid (Inv c (listT l (k + 1))) := by
          have : Inv c (listT l (k + 1)) := by rw [HSU.out, HEL.out]; exact HI.out.add HKW.out hy.1 hy.2.1
          exact this
        rw [h0]
        clear hg3 hf3 hy h0 p0 p1 p2 p3
        go_wp2_with fail
        go_roundw
        case rel => exact ⟨k + 1, by omega, by go_num, HG3.out, HI3.out, HF3.out⟩
        case measure => simp [intOf]; omega
      · have hne : (enterC c (listT l k) k t != 0) = true := by rw [bne_iff_ne]; exact h0
        have HF3 : Hid (Fr w w3 Nil) := HFw.out.trans hf3 fun j hj e => absurd hj (by have := HN1.out; have := HS.out; omega)
        clear hg3 hf3 p0 p1 p2 p3
        go_wp2_with fail
        refine (works_any _).mono ?_
        rintro e w9 ⟨rfl, hf9⟩
        have HF9 := Lib.hid (HF3.out.trans0 hf9)
        clear hf9
        go_wp2_with fail
        go_ret
        exact ⟨rfl, HF9.out⟩
    · obtain rfl : k = l.length := by omega
      have HH2 := Lib.hid (HH.out.fr Hf.out (by have := HN2.out; omega) (by have := HN2.out; omega))
      have HF4 := Lib.hid HFw.out
      have HGK := Lib.hid HG.out
      clear HH Hf HFw HF2 HKW HG
      obtain ⟨wo, rfl⟩ : ∃ wo : World, wo = wr := ⟨_, rfl⟩
      by_cases hpos : 0 < l.length
      · have hz1 : ((l.length : Int) == 0) = false := by rw [beq_eq_false_iff_ne]; omega
        have hz2 : ¬ (l.length : Int) = 0 := by omega
        have hpi : (0 : Int) < (l.length : Int) := by omega
        obtain ⟨kk, hkk, hkl⟩ : ∃ kk : Nat, at_ % (l.length : Int) = (kk : Int) ∧ kk < l.length := ⟨(at_ % (l.length : Int)).toNat, by have := Int.emod_nonneg at_ hz2; omega, by have := Int.emod_nonneg at_ hz2; have := Int.emod_lt_of_pos at_ hpi; omega⟩
        have ha2 : at_.tmod (l.length : Int) = (kk : Int) := by rw [Int.tmod_eq_emod_of_nonneg hat.1, hkk]
        go_wp2_with fail
        go_loopw [13, 14] (fun vi _ wr => ∃ j : Nat, j ≤ l.length ∧ vi = .int .i64 ((l.length : Int) - 1 - (j : Int)) ∧ GateAt wr hb hm c (backT l kk j) ∧ Fr wo wr (fun j => j = hm)) (fun vi _ _ => (intOf vi + 1).toNat)
        case atStart => exact ⟨0, by omega, (by simp), HH2.out, Fr.refl _ _⟩
        case round =>
          clear HH2
          obtain ⟨j, hj, rfl, hg, hf⟩ := hrel
          have HH3 := Lib.hid hg
          have Hf := Lib.hid hf
          have HFw : Hid (Fr w wr Nil) := HF4.out.trans hf fun j hj e => absurd hj (by have := HN2.out; have := HS.out; omega)
          clear hg hf
          by_cases hlt : j < l.length
          · have hjn : (0 : Int) ≤ (l.length : Int) - 1 - (j : Int) := by omega
            obtain ⟨t, ht, htl⟩ : ∃ t : Nat, t = turnT l.length kk j ∧ t < l.length := ⟨_, rfl, turnT_lt hpos⟩
            have hti : ((l.length : Int) - 1 - (j : Int) + (kk : Int)) % (l.length : Int) = (t : Int) := by
              rw [ht]; unfold turnT
              rw [show (l.length : Int) - 1 - (j : Int) + (kk : Int) = ((l.length - 1 - j + kk : Nat) : Int) by omega]
              simp
            have ht2 : ((l.length : Int) - 1 - (j : Int) + (kk : Int)).tmod (l.length : Int) = (t : Int) := by rw [Int.tmod_eq_emod_of_nonneg (by omega), hti]
            have HBS := Lib.hid (back_step HI.out hkl hlt)
            rw [← ht] at HBS
            obtain ⟨tb, toff, tcap2, htv, htc⟩ := (HCS.out.fr0 HFw.out).form (by omega)
            simp only [Value.slice.injEq, true_and] at htv
            obtain ⟨rfl, rfl⟩ := htv
            have hgt := List.getElem?_eq_getElem htl
            have hgd : l.getD t zeroN = l[t] := by simp [List.getD_eq_getElem?_getD, htl]
            rw [hgd] at HBS
            generalize l[t] = d at *
            obtain ⟨p0, p1, p2, p3⟩ := need_cells htc hgt
            have hml : (backT l kk j).length ≤ 1000000 := by rw [backT_len]; omega
            have htti : (t : Int) < (l.length : Int) := by omega
            have HT := Lib.hid ht
            have HKW := Lib.hid (wf_nat t (by omega))
            clear htc hgt hgd ht
            go_wp2_with fail
            refine (enter_any hb hm c (backT l kk j) t d wr HH3.out HW.out HKW.out hml).mono ?_
            rintro e w3 ⟨rfl, hg3, hf3⟩
            rw [HBS.out.2.1]
            rw [HBS.out.2.2] at hg3
            have HG3 := Lib.hid hg3
            have HF3 := Lib.hid (Hf.out.transS hf3)
            clear hg3 hf3 p0 p1 p2 p3
            go_wp2_with fail
            go_roundw
            case rel => exact ⟨j + 1, by omega, congrArg (Value.int .i64) (by omega), HG3.out, HF3.out⟩
            case measure => simp [intOf]; omega
          · obtain rfl : j = l.length := by omega
            have HP := Lib.hid (back_perm (l := l) hkl)
            have HG9 := Lib.hid (HGK.out.fr Hf.out (by have := HN2.out; omega) (by have := HN2.out; omega))
            have HF9 := Lib.hid HFw.out
            generalize backT l kk l.length = B at *
            have HH9 := Lib.hid HH3.out
            clear HH3 Hf HFw HF4 HGK
            obtain ⟨wv, rfl⟩ : ∃ wv : World, wv = wr := ⟨_, rfl⟩
            go_wp2_with fail
            refine (in_any gb bm c (listT l l.length) wv HG9.out (by rw [listT_len]; omega)).mono ?_
            rintro e w4 ⟨v, rfl, hv, hvn, hf4⟩
            obtain ⟨va, vcap, rfl⟩ := hv.shape
            have HV := Lib.hid hv.at
            have HG4 := Lib.hid (HG9.out.fr0 hf4)
            have HH4 := Lib.hid (HH9.out.fr0 hf4)
            have HF4 := Lib.hid (HF9.out.trans0 hf4)
            clear hv hvn hf4 HG9 HH9 HF9
            go_wp2_with fail
            refine (in_any hb hm c B w4 HH4.out (by rw [HP.out.length_eq, listT_len]; omega)).mono ?_
            rintro e w5 ⟨u, rfl, hu, hun, hf5⟩
            rw [keys_of_perm HP.out] at hu
            obtain ⟨ua, ucap, rfl⟩ := hu.shape
            have HU5 := Lib.hid hu.at
            have HV5 := Lib.hid (fr0i HV.out hf5)
            have HG5 := Lib.hid (HG4.out.fr0 hf5)
            have HH5 := Lib.hid (HH4.out.fr0 hf5)
            have HF5 := Lib.hid (HF4.out.trans0 hf5)
            have hkl : (keysOf (listT l l.length)).length = l.length := by rw [keysOf_len, listT_len]
            clear hu hun hf5 HG4 HH4 HF4 HV
            generalize keysOf (listT l l.length) = ks at *
            have hnn : ((ks.length : Int) != (l.length : Int)) = false := by rw [bne_eq_false_iff_eq]; omega
            have hnn2 : ((l.length : Int) != (l.length : Int)) = false := by simp
            go_wp2_with fail
            refine (room_any gb bm c (listT l l.length) w5 HG5.out HW.out).mono ?_
            rintro e w6 ⟨rfl, hf6⟩
            have HU6 := Lib.hid (fr0i HU5.out hf6)
            have HV6 := Lib.hid (fr0i HV5.out hf6)
            have HG6 := Lib.hid (HG5.out.fr0 hf6)
            have HH6 := Lib.hid (HH5.out.fr0 hf6)
            have HF6 := Lib.hid (HF5.out.trans0 hf6)
            have HRP := Lib.hid (room_of_perm (c := c) HP.out)
            clear hf6 HG5 HH5 HF5 HU5 HV5
            go_wp2_with fail
            refine (room_any hb hm c B w6 HH6.out HW.out).mono ?_
            rintro e w7 ⟨rfl, hf7⟩
            rw [HRP.out]
            have HU7 := Lib.hid (fr0i HU6.out hf7)
            have HV7 := Lib.hid (fr0i HV6.out hf7)
            have HG7 := Lib.hid (HG6.out.fr0 hf7)
            have HH7 := Lib.hid (HH6.out.fr0 hf7)
            have HF7 := Lib.hid (HF6.out.trans0 hf7)
            generalize roomOf c (listT l l.length) = r at *
            clear hf7 HG6 HH6 HF6 HU6 HV6 HRP
            go_wp2_with fail
            go_loopw [17, 18, 19, 20, 21] (fun vi _ _ _ _ wr => ∃ i : Nat, i ≤ l.length ∧ vi = .int .i64 i ∧ Fr w7 wr Nil) (fun vi _ _ _ _ _ => l.length - (intOf vi).toNat)
            case atStart => exact ⟨0, by omega, rfl, Fr.refl _ _⟩
            case round =>
              obtain ⟨i, hi, rfl, hf⟩ := hrel
              have Hf := Lib.hid hf
              clear hf
              by_cases hlt : i < l.length
              · have HGi := Lib.hid (HG7.out.fr0 Hf.out)
                have HHi := Lib.hid (HH7.out.fr0 Hf.out)
                have HFi := Lib.hid (HF7.out.trans0 Hf.out)
                have hgt := List.getElem?_eq_getElem hlt
                have hm1 := get_perm (List.Perm.refl _) HI.out.keys (listT_mem hlt)
                have hm2 := get_perm HP.out HI.out.keys (listT_mem hlt)
                generalize l[i] = d at *
                have HM1 := Lib.hid hm1
                have HM2 := Lib.hid hm2
                have HGT := Lib.hid hgt
                have HKW := Lib.hid (wf_nat i (by omega))
                have hii : (i : Int) < (l.length : Int) := by omega
                have hii2 : (i : Int) < (ks.length : Int) := by omega
                clear hgt hm1 hm2
                obtain ⟨wz, rfl⟩ : ∃ wz : World, wz = wr := ⟨_, rfl⟩
                go_wp2_with fail
                refine (of_any gb bm c (listT l l.length) i wz HGi.out HKW.out).mono ?_
                rintro e w8 ⟨rfl, hf8⟩
                rw [HM1.out.1, show (List.map Prod.fst (listT l l.length)).contains (i : Int) = true from HM1.out.2]
                have HH8 := Lib.hid (HHi.out.fr0 hf8)
                have Hf8 := Lib.hid (Hf.out.trans0 hf8)
                clear hf8 HGi HHi HFi
                obtain ⟨dp, ds, dl, du⟩ := d
                go_wp2_with fail
                have HH8a := Lib.hid (HH8.out.fr0 ((Fr.refl w8 Nil).alloc (.cells #[.int .i64 dp, .bool ds, .int .i64 dl, .int .i64 du] 27)))
                refine (of_any hb hm c B i _ HH8a.out HKW.out).mono ?_
                rintro e w9 ⟨rfl, hf9⟩
                rw [HM2.out.1, show (List.map Prod.fst B).contains (i : Int) = true from HM2.out.2]
                have hfa : Fr w8 w9 Nil := ((Fr.refl w8 Nil).alloc _).trans0 hf9
                have Hf9 := Lib.hid (Hf8.out.trans0 hfa)
                have hbx := ((bk_at w8 27 #[.int .i64 dp, .bool ds, .int .i64 dl, .int .i64 du] _ rfl).fr hf9 fun h => h).alloc (.cells #[.int .i64 dp, .bool ds, .int .i64 dl, .int .i64 du] 27)
                have b0 := hbx.cell 0
                have b1 := hbx.cell 1
                have b2 := hbx.cell 2
                have b3 := hbx.cell 3
                simp only [List.getElem?_cons_zero, List.getElem?_cons_succ] at b0 b1 b2 b3
                have hfw : Fr w (w9.alloc (.cells #[.int .i64 dp, .bool ds, .int .i64 dl, .int .i64 du] 27)) Nil := (HF7.out.trans0 Hf9.out).alloc _
                have hf79 : Fr w7 (w9.alloc (.cells #[.int .i64 dp, .bool ds, .int .i64 dl, .int .i64 du] 27)) Nil := Hf9.out.alloc _
                obtain ⟨tb, toff, tcap2, htv, htc⟩ := (HCS.out.fr0 hfw).form (by omega)
                simp only [Value.slice.injEq, true_and] at htv
                obtain ⟨rfl, rfl⟩ := htv
                obtain ⟨p0, p1, p2, p3⟩ := need_cells htc HGT.out
                obtain ⟨xb, xoff, xcap2, hxv, hxc⟩ := (fr0i HV7.out hf79).form (by omega)
                simp only [Value.slice.injEq, true_and] at hxv
                obtain ⟨rfl, rfl⟩ := hxv
                obtain ⟨yb, yoff, ycap2, hyv, hyc⟩ := (fr0i HU7.out hf79).form (by omega)
                simp only [Value.slice.injEq, true_and] at hyv
                obtain ⟨rfl, rfl⟩ := hyv
                have e0 := hxc i _ (List.getElem?_eq_getElem (by omega))
                have e1 := hyc i _ (List.getElem?_eq_getElem (by omega))
                generalize ks[i] = kx at *
                have hxx : (kx != kx) = false := by simp
                have HFZ := Lib.hid hf79
                clear htc hxc hyc hbx hfa hf9 hfw hf79 HH8 HH8a Hf8
                go_wp2_with fail
                go_quiet (fail)
                go_wp2_with fail
                go_roundw
                case rel => exact ⟨i + 1, by omega, by go_num, HFZ.out.drewN _⟩
                case measure => simp [intOf]; omega
              · obtain rfl : i = l.length := by omega
                go_wp2_with fail
                refine (works_any _).mono ?_
                rintro e w9 ⟨rfl, hf9⟩
                have HFX := Lib.hid ((HF7.out.trans0 Hf.out).trans0 hf9)
                clear hf9
                go_wp2_with fail
                go_ret
                exact ⟨rfl, HFX.out⟩
      · exact absurd hpos0 hpos

section
variable (c : CapD) (lv : Value) (l : List Nd) (at_ : Int) (w : World)
set_option maxRecDepth 100000 in
set_option maxHeartbeats 1000000 in
theorem aturned_no (hcs : NeedsAt w lv l) (hm : c.may = false) :
    Calls Try.prog 7 #[c.val, lv, .int .u8 at_] w fun e w' => e = .returned (.bool true) ∧ Fr w w' Nil := by
  obtain ⟨la, lcap, rfl, hcc⟩ := hcs.shape
  have HM := Lib.hid hm
  have HB0 := Lib.hid (bk_at w 23 #[.int .i64 c.n, .int .i64 c.l, .int .i64 c.u] _ rfl)
  clear hcs hm
  go_enter Try.func7, Try.ntmps7
  go_wp2_with fail
  refine (new_no c _ HM.out).mono ?_
  rintro e w1 ⟨rfl, hf⟩
  have HF : Hid (Fr w w1 Nil) := ((Fr.refl w Nil).alloc _).trans0 hf
  have hb1 := HB0.out.fr hf fun h => h
  have q0 := hb1.cell 0
  have q1 := hb1.cell 1
  have q2 := hb1.cell 2
  clear hf hb1 HB0
  go_wp2_with fail
  refine (new_no c _ HM.out).mono ?_
  rintro e w2 ⟨rfl, hf2⟩
  have HF2 := Lib.hid (HF.out.trans0 hf2)
  clear hf2 q0 q1 q2
  go_wp2_with fail
  refine (works_any _).mono ?_
  rintro e w9 ⟨rfl, hf9⟩
  have HF9 := Lib.hid (HF2.out.trans0 hf9)
  clear hf9
  go_wp2_with fail
  go_ret
  exact ⟨rfl, HF9.out⟩
set_option maxRecDepth 100000 in
set_option maxHeartbeats 1000000 in
theorem aturned_long (hcs : NeedsAt w lv l) (hm : c.may = true) (hl : 20 < l.length) :
    Calls Try.prog 7 #[c.val, lv, .int .u8 at_] w fun e w' => e = .returned (.bool true) ∧ Fr w w' Nil := by
  obtain ⟨la, lcap, rfl, hcc⟩ := hcs.shape
  have HM := Lib.hid hm
  have HB0 := Lib.hid (bk_at w 23 #[.int .i64 c.n, .int .i64 c.l, .int .i64 c.u] _ rfl)
  clear hcs hm
  go_enter Try.func7, Try.ntmps7
  go_wp2_with fail
  refine (new_yes c _ HM.out).mono ?_
  rintro e w1 ⟨gb, bm, rfl, _, hf, _, _⟩
  have HF : Hid (Fr w w1 Nil) := ((Fr.refl w Nil).alloc _).trans0 hf
  have hb1 := HB0.out.fr hf fun h => h
  have q0 := hb1.cell 0
  have q1 := hb1.cell 1
  have q2 := hb1.cell 2
  clear hf hb1 HB0
  go_wp2_with fail
  refine (new_yes c _ HM.out).mono ?_
  rintro e w2 ⟨hb, hm, rfl, _, hf2, _, _⟩
  have HF2 := Lib.hid (HF.out.trans0 hf2)
  clear hf2 q0 q1 q2
  go_wp2_with fail
  refine (works_any _).mono ?_
  rintro e w9 ⟨rfl, hf9⟩
  have HF9 := Lib.hid (HF2.out.trans0 hf9)
  clear hf9
  go_wp2_with fail
  go_ret
  exact ⟨rfl, HF9.out⟩
set_option maxRecDepth 100000 in
set_option maxHeartbeats 1000000 in
theorem aturned_nil (hcs : NeedsAt w lv []) (hm : c.may = true) :
    Calls Try.prog 7 #[c.val, lv, .int .u8 at_] w fun e w' => e = .returned (.bool true) ∧ Fr w w' Nil := by
  obtain ⟨la, lcap, hlv, hcc⟩ := hcs.shape
  rw [List.length_nil] at hlv
  subst hlv
  have HM := Lib.hid hm
  have HW := Lib.hid (CapD.wf_of hm)
  have HB0 := Lib.hid (bk_at w 23 #[.int .i64 c.n, .int .i64 c.l, .int .i64 c.u] _ rfl)
  clear hcs hm hcc
  go_enter Try.func7, Try.ntmps7
  go_wp2_with fail
  refine (new_yes c _ HM.out).mono ?_
  rintro e w1 ⟨gb, bm, rfl, hg, hf, _, _⟩
  have HG := Lib.hid hg
  have HF : Hid (Fr w w1 Nil) := ((Fr.refl w Nil).alloc _).trans0 hf
  have hb1 := HB0.out.fr hf fun h => h
  have q0 := hb1.cell 0
  have q1 := hb1.cell 1
  have q2 := hb1.cell 2
  clear hf hb1 HB0 hg
  go_wp2_with fail
  refine (new_yes c _ HM.out).mono ?_
  rintro e w2 ⟨hb, hm, rfl, hh, hf2, _, _⟩
  have HH := Lib.hid hh
  have HG2 := Lib.hid (HG.out.fr0 hf2)
  have HF2 := Lib.hid (HF.out.trans0 hf2)
  clear hf2 q0 q1 q2 hh HG HF
  go_wp2_with fail
  go_loopw [11] (fun vi wr => vi = .int .i64 0 ∧ Fr w2 wr Nil) (fun _ _ => 0)
  case atStart => exact ⟨rfl, Fr.refl _ _⟩
  case round =>
    obtain ⟨rfl, hf⟩ := hrel
    have HG3 := Lib.hid (HG2.out.fr0 hf)
    have HH3 := Lib.hid (HH.out.fr0 hf)
    have HF3 := Lib.hid (HF2.out.trans0 hf)
    obtain ⟨w3, rfl⟩ : ∃ w3 : World, w3 = wr := ⟨_, rfl⟩
    clear hf HG2 HH HF2
    go_wp2_with fail
    go_loopw [13, 14] (fun vi _ wr => vi = .int .i64 (-1) ∧ Fr w3 wr Nil) (fun _ _ _ => 0)
    case atStart => exact ⟨rfl, Fr.refl _ _⟩
    case round =>
      obtain ⟨rfl, hf⟩ := hrel
      have HG4 := Lib.hid (HG3.out.fr0 hf)
      have HH4 := Lib.hid (HH3.out.fr0 hf)
      have HF4 := Lib.hid (HF3.out.trans0 hf)
      clear hf HG3 HH3 HF3
      go_wp2_with fail
      refine (in_any gb bm c [] _ HG4.out (by simp)).mono ?_
      rintro e w5 ⟨v, rfl, hv, hvn, hf5⟩
      obtain ⟨va, vcap, rfl⟩ := hv.shape
      rw [keysOf_len]
      have HG5 := Lib.hid (HG4.out.fr0 hf5)
      have HH5 := Lib.hid (HH4.out.fr0 hf5)
      have HF5 := Lib.hid (HF4.out.trans0 hf5)
      clear hf5 HG4 HH4 HF4 hv hvn
      go_wp2_with fail
      refine (in_any hb hm c [] _ HH5.out (by simp)).mono ?_
      rintro e w6 ⟨v, rfl, hv, hvn, hf5⟩
      obtain ⟨ua, ucap, rfl⟩ := hv.shape
      rw [keysOf_len]
      have HG6 := Lib.hid (HG5.out.fr0 hf5)
      have HH6 := Lib.hid (HH5.out.fr0 hf5)
      have HF6 := Lib.hid (HF5.out.trans0 hf5)
      clear hf5 HG5 HH5 HF5 hv hvn
      go_wp2_with fail
      refine (room_any gb bm c [] _ HG6.out HW.out).mono ?_
      rintro e w7 ⟨rfl, hf5⟩
      have HH7 := Lib.hid (HH6.out.fr0 hf5)
      have HF7 := Lib.hid (HF6.out.trans0 hf5)
      clear hf5 HG6 HH6 HF6
      go_wp2_with fail
      refine (room_any hb hm c [] _ HH7.out HW.out).mono ?_
      rintro e w8 ⟨rfl, hf5⟩
      have HF8 := Lib.hid (HF7.out.trans0 hf5)
      generalize roomOf c [] = r at *
      clear hf5 HH7 HF7
      go_wp2_with fail
      go_loopw [17] (fun vi wr => vi = .int .i64 0 ∧ Fr w8 wr Nil) (fun _ _ => 0)
      case atStart => exact ⟨rfl, Fr.refl _ _⟩
      case round =>
        obtain ⟨rfl, hf⟩ := hrel
        have HF9 := Lib.hid (HF8.out.trans0 hf)
        clear hf HF8
        go_wp2_with fail
        refine (works_any _).mono ?_
        rintro e w9 ⟨rfl, hf9⟩
        have HFX := Lib.hid (HF9.out.trans0 hf9)
        clear hf9
        go_wp2_with fail
        go_ret
        exact ⟨rfl, HFX.out⟩
theorem aturned_any (hcs : NeedsAt w lv l) (hat : 0 ≤ at_ ∧ at_ < 256) :
    Calls Try.prog 7 #[c.val, lv, .int .u8 at_] w fun e w' => e = .returned (.bool true) ∧ Fr w w' Nil := by
  cases hm : c.may with
  | false => exact aturned_no c lv l at_ w hcs hm
  | true =>
    by_cases hl : l.length ≤ 20
    · by_cases h0 : 0 < l.length
      · exact aturned_main c lv l at_ w hm hcs hl h0 hat
      · obtain rfl : l = [] := List.eq_nil_of_length_eq_zero (by omega)
        exact aturned_nil c lv at_ w hcs hm
    · exact aturned_long c lv l at_ w hcs hm (by omega)
end
end Go.Proofs.Ytplebgcgoigigaa
