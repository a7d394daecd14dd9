/-
  The walk of AdmitMore: it answers true.
  No condition.
-/
import Derived.Test.YtplebgcgoigigaaAdWorks
import Derived.Test.YtplebgcgoigigaaAdArgs
namespace Go.Proofs.Ytplebgcgoigigaa
open Go Go.RowKit Go.Maps Go.Shelf

theorem fr0i {w w' : World} {v : Value} {xs : List Int} (h : IntsAt w v xs) (hf : Fr w w' Nil) : IntsAt w' v xs := h.fr hf fun _ _ h => h
theorem call_cells {w : World} {b off : Nat} {l : List CallD} (h : ∀ i t, l[i]? = some t → ∀ j u, t.vals[j]? = some u → w.cell? ⟨b, off + i * 6 + j, none⟩ = some u) {i : Nat} {t : CallD} (ht : l[i]? = some t) :
    w.cell? ⟨b, off + i * 6, none⟩ = some (.int .u8 t.kind) ∧ w.cell? ⟨b, off + i * 6 + 1, none⟩ = some (.int .i64 t.who) ∧ w.cell? ⟨b, off + i * 6 + 2, none⟩ = some (.int .i64 t.nd.proc) ∧ w.cell? ⟨b, off + i * 6 + 3, none⟩ = some (.bool t.nd.single) ∧
      w.cell? ⟨b, off + i * 6 + 4, none⟩ = some (.int .i64 t.nd.l) ∧ w.cell? ⟨b, off + i * 6 + 5, none⟩ = some (.int .i64 t.nd.u) :=
  ⟨h i t ht 0 _ rfl, h i t ht 1 _ rfl, h i t ht 2 _ rfl, h i t ht 3 _ rfl, h i t ht 4 _ rfl, h i t ht 5 _ rfl⟩
/-- A list of keys that are all there, and stay so. -/
def Still (M : List (Int × Nd)) (ks : List Int) (i : Nat) : Prop := ∀ j x, i ≤ j → ks[j]? = some x → hasK M x = true
theorem Still.start (M : List (Int × Nd)) : Still M (keysOf M) 0 := fun _ _ _ h => keys_of_has ((keysOf_perm M).mem_iff.1 (List.mem_of_getElem? h))
theorem Still.next {M : List (Int × Nd)} {ks : List Int} {i : Nat} (h : Still M ks i) : Still M ks (i + 1) := fun _ _ hj hx => h _ _ (Nat.le_of_succ_le hj) hx
theorem Still.leave {M : List (Int × Nd)} {ks : List Int} {i : Nat} {x : Int} (h : Still M ks i) (hn : ks.Nodup) (hx : ks[i]? = some x) : Still (leaveM M x) ks (i + 1) := by
  intro j y hj hy
  refine leave_keeps (h j y (by omega) hy) fun e => ?_
  subst e
  obtain ⟨h1, rfl⟩ := List.getElem?_eq_some_iff.1 hx
  obtain ⟨h2, h3⟩ := List.getElem?_eq_some_iff.1 hy
  have := (List.getElem_inj hn).1 h3
  omega
theorem keysOf_nodup {c : CapD} {M : List (Int × Nd)} (h : Inv c M) : (keysOf M).Nodup := (keysOf_perm M).nodup_iff.2 h.keys

set_option maxRecDepth 100000 in
set_option maxHeartbeats 4000000 in
theorem amore_main (c : CapD) (cv : Value) (calls : List CallD) (bits : Int) (n : Nd) (w : World) (hm : c.may = true) (hcs : CallsAt w cv calls) (hl : calls.length ≤ 60) :
    Calls Try.prog 3 #[c.val, cv, .int .u64 bits, encN n] w fun e w' => e = .returned (.bool true) ∧ Fr w w' Nil := by
  obtain ⟨ca, ccap, rfl, hcc⟩ := hcs.shape
  have HCS := Lib.hid hcs
  have HM := Lib.hid hm
  have HW := Lib.hid (CapD.wf_of hm)
  clear hcs hm
  have hbn := bk_at (w.alloc (.cells #[.int .i64 c.n, .int .i64 c.l, .int .i64 c.u] 23)) 27 #[.int .i64 n.proc, .bool n.single, .int .i64 n.l, .int .i64 n.u] (w.heap.size + 1) (by simp)
  have hf0 : Fr w ((w.alloc (.cells #[.int .i64 c.n, .int .i64 c.l, .int .i64 c.u] 23)).alloc (.cells #[.int .i64 n.proc, .bool n.single, .int .i64 n.l, .int .i64 n.u] 27)) Nil := ((Fr.refl w Nil).alloc _).alloc _
  have HBN := Lib.hid hbn
  have HF0 := Lib.hid hf0
  clear hbn hf0
  go_enter Try.func3, Try.ntmps3
  go_wp2_with fail
  refine (new_yes c _ HM.out).mono ?_
  rintro e w1 ⟨gb, bm, rfl, hg, hf, _, hn⟩
  have HG := Lib.hid hg
  have HB1 := Lib.hid (HBN.out.fr hf fun h => h)
  have HF1 := Lib.hid (HF0.out.trans0 hf)
  have HN : Hid (w.heap.size + 2 ≤ bm) := by
    have : w.heap.size + 2 ≤ bm := by simp at hn; omega
    exact this
  clear hg hf hn HBN HF0
  generalize hs : w.heap.size = sz at *
  have HS := Lib.hid hs
  clear hs
  go_wp2_with fail
  go_loopw [11] (fun vi wr => ∃ (k : Nat) (M : List (Int × Nd)), k ≤ calls.length ∧ vi = .int .i64 k ∧ GateAt wr gb bm c M ∧ Inv c M ∧ M.length ≤ k ∧ Fr w1 wr (fun j => j = bm)) (fun vi _ => calls.length - (intOf vi).toNat)
  case atStart => exact ⟨0, [], by omega, rfl, HG.out, Inv.nil HM.out, by simp, Fr.refl _ _⟩
  case round =>
    obtain ⟨k, M, hk, rfl, hg, hi, hml, hf⟩ := hrel
    have HG := Lib.hid hg
    have HI := Lib.hid hi
    have Hf := Lib.hid hf
    have HFw : Hid (Fr w wr Nil) := HF1.out.trans hf fun j hj e => absurd hj (by have := HN.out; have := HS.out; omega)
    clear hg hi hf
    by_cases hlt : k < calls.length
    · obtain ⟨tb, toff, tcap2, htv, htc⟩ := (HCS.out.fr0 HFw.out).form (by omega)
      simp only [Value.slice.injEq, true_and] at htv
      obtain ⟨rfl, rfl⟩ := htv
      have hgt := List.getElem?_eq_getElem hlt
      generalize calls[k] = t at hgt
      obtain ⟨p0, p1, p2, p3, p4, p5⟩ := call_cells htc hgt
      have hki : (k : Int) < (calls.length : Int) := by omega
      obtain ⟨tk, tw, ⟨np, ns, nl, nu⟩, tok, tow⟩ := t
      clear htc hgt
      go_wp2_with fail
      have q1 := fun p : FrW wr => p.cell p1
      have q2 := fun p : FrW wr => p.cell p2
      have q3 := fun p : FrW wr => p.cell p3
      have q4 := fun p : FrW wr => p.cell p4
      have q5 := fun p : FrW wr => p.cell p5
      have hcl : ∀ p : FrW wr, ∃ q : FrW wr, p.to = q.to := fun p => ⟨p, rfl⟩
      refine wp_region_tail 11 (by kernel_rfl) (by kernel_rfl) ?_
      simp only [List.take_succ_cons, List.take_zero, List.drop_succ_cons, List.drop_zero]
      iterate 11 go_big_quiet_step (fail)
      refine wpQuiet_nil ?_
      intro _ hw'
      obtain ⟨p, hw''⟩ := hw'
      subst hw''
      have HG2 := Lib.hid (HG.out.fr0 p.fr)
      have Hf2 := Lib.hid (Hf.out.trans0 p.fr)
      generalize p.to = w2 at *
      clear q1 q2 q3 q4 q5 hcl p0 p1 p2 p3 p4 p5
      go_wp2_with fail
      refine (enter_any gb bm c M tw ⟨np, ns, nl, nu⟩ w2 HG2.out HW.out tow (by omega)).mono ?_
      rintro e w3 ⟨rfl, hg3, hf3⟩
      have HG3 := Lib.hid hg3
      have HF3 := Lib.hid (Hf2.out.transS hf3)
      have HI3 := Lib.hid (HI.out.enter (n := ⟨np, ns, nl, nu⟩) tow)
      have hml3 := enter_len c M tw ⟨np, ns, nl, nu⟩
      clear hg3 hf3
      go_wp2_with fail
      go_roundw
      case rel => exact ⟨k + 1, enterM c M tw ⟨np, ns, nl, nu⟩, by omega, by go_num, HG3.out, HI3.out, by omega, HF3.out⟩
      case measure => simp [intOf]; omega
    · obtain rfl : k = calls.length := by omega
      have hb2 := HB1.out.fr Hf.out (by have := HN.out; omega)
      have q0 := hb2.cell 0
      have q1 := hb2.cell 1
      have q2 := hb2.cell 2
      have q3 := hb2.cell 3
      have HB2 := Lib.hid hb2
      clear hb2 HB1
      go_wp2_with fail
      refine (gmay_any gb bm c M n _ HG.out HW.out).mono ?_
      rintro e w3 ⟨rfl, hf3⟩
      generalize hmb : mayP c M n = mb
      have HMB := Lib.hid hmb
      have HG3 := Lib.hid (HG.out.fr0 hf3)
      have HB3 := Lib.hid (HB2.out.fr hf3 fun h => h)
      have HF3 := Lib.hid (HFw.out.trans0 hf3)
      clear hf3 hmb HG HB2 HFw Hf q0 q1 q2 q3
      go_wp2_with fail
      refine (in_any gb bm c M _ HG3.out (by omega)).mono ?_
      rintro e w4 ⟨v, rfl, hv, hvn, hf4⟩
      obtain ⟨va, vcap, rfl⟩ := hv.shape
      have HV := Lib.hid hv.at
      have HVN : Hid (∀ j, (Value.slice va (keysOf M).length vcap).ownBlock = some j → j ≠ bm) := by
        have hbl := HG3.out.2.lt
        have : ∀ j, (Value.slice va (keysOf M).length vcap).ownBlock = some j → j ≠ bm := fun j hj => by have := hvn j hj; omega
        exact this
      have HG4 := Lib.hid (HG3.out.fr0 hf4)
      have HB4 := Lib.hid (HB3.out.fr hf4 fun h => h)
      have HF4 := Lib.hid (HF3.out.trans0 hf4)
      have hkl := keysOf_len M
      have HKN := Lib.hid (keysOf_nodup HI.out)
      have HST := Lib.hid (Still.start M)
      clear hv hvn hf4 HG3 HB3 HF3
      generalize keysOf M = ks at *
      go_wp2_with fail
      go_loopw [14] (fun vi wq => ∃ (i : Nat) (M' : List (Int × Nd)), i ≤ ks.length ∧ vi = .int .i64 i ∧ GateAt wq gb bm c M' ∧ Inv c M' ∧ Still M' ks i ∧ (mb = true → mayP c M' n = true) ∧ Fr w4 wq (fun j => j = bm)) (fun vi _ => ks.length - (intOf vi).toNat)
      case atStart => exact ⟨0, M, by omega, rfl, HG4.out, HI.out, HST.out, fun e => HMB.out.trans e, Fr.refl _ _⟩
      case round =>
        clear HG4 HST
        obtain ⟨i, M', hi, rfl, hg, hinv, hst, hmm, hf⟩ := hrel
        have HG := Lib.hid hg
        have HI' := Lib.hid hinv
        have HST := Lib.hid hst
        have HMM := Lib.hid hmm
        have Hf := Lib.hid hf
        clear hg hinv hst hmm hf
        by_cases hlt : i < ks.length
        · obtain ⟨vb, voff, vcap2, hvv, hvc⟩ := (HV.out.fr Hf.out fun j hj h2 => HVN.out j hj h2).form (by omega)
          simp only [Value.slice.injEq, true_and] at hvv
          obtain ⟨rfl, rfl⟩ := hvv
          have hgx := List.getElem?_eq_getElem hlt
          generalize ks[i] = x at *
          have q0 := hvc i x hgx
          have HGX := Lib.hid hgx
          have hii : (i : Int) < (ks.length : Int) := by omega
          clear hvc hgx
          have hb5 := HB4.out.fr Hf.out (by have := HN.out; omega)
          have b0 := hb5.cell 0
          have b1 := hb5.cell 1
          have b2 := hb5.cell 2
          have b3 := hb5.cell 3
          simp only [List.getElem?_cons_zero, List.getElem?_cons_succ] at b0 b1 b2 b3
          have HKX := Lib.hid (HST.out i x (Nat.le_refl _) HGX.out)
          have HR : Hid (leaveC M' x = 0) := by
            have : leaveC M' x = 0 := by unfold leaveC; rw [HKX.out]; rfl
            exact this
          have HI2 := Lib.hid (HI'.out.leave x)
          have HST2 := Lib.hid (HST.out.leave HKN.out HGX.out)
          have HST1 := Lib.hid HST.out.next
          have HXW := Lib.hid (HI'.out.key_wf HKX.out)
          clear hb5
          cases mb with
          | false =>
            go_wp2_with fail
            case isTrue =>
              refine (gleave_any gb bm c M' x _ HG.out HXW.out).mono ?_
              rintro e w5 ⟨rfl, hg5, hf5⟩
              rw [HR.out]
              have HG5 := Lib.hid hg5
              have Hf5 := Lib.hid (Hf.out.transS hf5)
              clear hg5 hf5 q0 b0 b1 b2 b3
              go_wp2_with fail
              go_roundw
              case rel => exact ⟨i + 1, leaveM M' x, by omega, by go_num, HG5.out, HI2.out, HST2.out, (fun e => by cases e), Hf5.out⟩
              case measure => simp [intOf]; omega
            go_roundw
            case rel => exact ⟨i + 1, M', by omega, by go_num, HG.out, HI'.out, HST1.out, (fun e => by cases e), Hf.out⟩
            case measure => simp [intOf]; omega
          | true =>
            have HM2 := Lib.hid (HI'.out.more x (HMM.out rfl))
            have HM1 := Lib.hid (HMM.out rfl)
            go_wp2_with fail
            case isTrue =>
              refine (gleave_any gb bm c M' x _ HG.out HXW.out).mono ?_
              rintro e w5 ⟨rfl, hg5, hf5⟩
              rw [HR.out]
              have HG5 := Lib.hid hg5
              have Hf5 := Lib.hid (Hf.out.transS hf5)
              have hb5 := HB4.out.fr Hf5.out (by have := HN.out; omega)
              clear b0 b1 b2 b3 q0
              have b0 := hb5.cell 0
              have b1 := hb5.cell 1
              have b2 := hb5.cell 2
              have b3 := hb5.cell 3
              simp only [List.getElem?_cons_zero, List.getElem?_cons_succ] at b0 b1 b2 b3
              clear hg5 hf5 hb5
              go_wp2_with fail
              refine (gmay_any gb bm c (leaveM M' x) n _ HG5.out HW.out).mono ?_
              rintro e w6 ⟨rfl, hf6⟩
              rw [HM2.out]
              have HG6 := Lib.hid (HG5.out.fr0 hf6)
              have Hf6 := Lib.hid (Hf5.out.trans0 hf6)
              clear hf6 b0 b1 b2 b3
              go_wp2_with fail
              go_roundw
              case rel => exact ⟨i + 1, leaveM M' x, by omega, by go_num, HG6.out, HI2.out, HST2.out, fun _ => HM2.out, Hf6.out⟩
              case measure => simp [intOf]; omega
            refine (gmay_any gb bm c M' n _ HG.out HW.out).mono ?_
            rintro e w6 ⟨rfl, hf6⟩
            rw [HM1.out]
            have HG6 := Lib.hid (HG.out.fr0 hf6)
            have Hf6 := Lib.hid (Hf.out.trans0 hf6)
            clear hf6 b0 b1 b2 b3 q0
            go_wp2_with fail
            go_roundw
            case rel => exact ⟨i + 1, M', by omega, by go_num, HG6.out, HI'.out, HST1.out, fun _ => HM1.out, Hf6.out⟩
            case measure => simp [intOf]; omega
        · obtain rfl : i = ks.length := by omega
          have HFw : Hid (Fr w _ Nil) := HF4.out.trans Hf.out fun j hj e => absurd hj (by have := HN.out; have := HS.out; omega)
          go_wp2_with fail
          refine (works_any _).mono ?_
          rintro e w9 ⟨rfl, hf9⟩
          have HF9 := Lib.hid (HFw.out.trans0 hf9)
          clear hf9
          go_wp2_with fail
          go_ret
          exact ⟨rfl, HF9.out⟩
section
variable (c : CapD) (cv : Value) (calls : List CallD) (bits : Int) (n : Nd) (w : World)
set_option maxRecDepth 100000 in
set_option maxHeartbeats 1000000 in
theorem amore_no (hcs : CallsAt w cv calls) (hm : c.may = false) :
    Calls Try.prog 3 #[c.val, cv, .int .u64 bits, encN n] w fun e w' => e = .returned (.bool true) ∧ Fr w w' Nil := by
  obtain ⟨ca, ccap, rfl, hcc⟩ := hcs.shape
  have HM := Lib.hid hm
  clear hcs hm
  go_enter Try.func3, Try.ntmps3
  go_wp2_with fail
  refine (new_no c _ HM.out).mono ?_
  rintro e w1 ⟨rfl, hf⟩
  have HF : Hid (Fr w w1 Nil) := (((Fr.refl w Nil).alloc _).alloc _).trans0 hf
  clear hf
  go_wp2_with fail
  refine (works_any _).mono ?_
  rintro e w9 ⟨rfl, hf9⟩
  have HF9 := Lib.hid (HF.out.trans0 hf9)
  clear hf9
  go_wp2_with fail
  go_ret
  exact ⟨rfl, HF9.out⟩
set_option maxRecDepth 100000 in
set_option maxHeartbeats 1000000 in
theorem amore_long (hcs : CallsAt w cv calls) (hm : c.may = true) (hl : 60 < calls.length) :
    Calls Try.prog 3 #[c.val, cv, .int .u64 bits, encN n] w fun e w' => e = .returned (.bool true) ∧ Fr w w' Nil := by
  obtain ⟨ca, ccap, rfl, hcc⟩ := hcs.shape
  have HM := Lib.hid hm
  clear hcs hm
  go_enter Try.func3, Try.ntmps3
  go_wp2_with fail
  refine (new_yes c _ HM.out).mono ?_
  rintro e w1 ⟨gb, bm, rfl, _, hf, _, _⟩
  have HF : Hid (Fr w w1 Nil) := (((Fr.refl w Nil).alloc _).alloc _).trans0 hf
  clear hf
  go_wp2_with fail
  refine (works_any _).mono ?_
  rintro e w9 ⟨rfl, hf9⟩
  have HF9 := Lib.hid (HF.out.trans0 hf9)
  clear hf9
  go_wp2_with fail
  go_ret
  exact ⟨rfl, HF9.out⟩
theorem amore_any (hcs : CallsAt w cv calls) :
    Calls Try.prog 3 #[c.val, cv, .int .u64 bits, encN n] w fun e w' => e = .returned (.bool true) ∧ Fr w w' Nil := by
  cases hm : c.may with
  | false => exact amore_no c cv calls bits n w hcs hm
  | true =>
    by_cases hl : calls.length ≤ 60
    · exact amore_main c cv calls bits n w hm hcs hl
    · exact amore_long c cv calls bits n w hcs hm (by omega)
end
end Go.Proofs.Ytplebgcgoigigaa
