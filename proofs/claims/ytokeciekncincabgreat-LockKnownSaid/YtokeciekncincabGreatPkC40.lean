/-
  Whom Holders and For of the document tell: what the program's tell. Plain Lean.
  No condition.
  Walk of the document's For.
  No condition but sizes.
-/
import Derived.Test.YtokeciekncincabGreatPkC37
import Derived.Test.YtokeciekncincabGreatPkC39
import Derived.Test.YtokeciekncincabGreatPkC28
import Derived.Test.YtokeciekncincabGreatPkC33
namespace Go.Proofs.YtokeciekncincabGreat
open Go

theorem keysM_inc {H : List LkE} (hn : H.Pairwise fun a b => ¬ (a.who = b.who ∧ a.s = b.s)) (s : Spot) : Inc (keysM (holdsOf H s)) := by
  have h1 := List.pairwise_mergeSort (le := fun x y : Int => decide (x ≤ y)) (fun a b c => by simp; omega) (fun a b => by simp; omega) ((holdsOf H s).map Prod.fst)
  have h2 : (keysM (holdsOf H s)).Nodup := keysM_nodup hn s
  unfold Inc
  have h3 := List.pairwise_and_iff.2 ⟨h1, h2⟩
  exact h3.imp fun {a b} h => by
    have h4 := h.1
    have h5 := h.2
    rw [decide_eq_true_eq] at h4
    omega
theorem rkeys_eq {H : List LkE} (hn : H.Pairwise fun a b => ¬ (a.who = b.who ∧ a.s = b.s)) (s : Spot) : rkeys H s = keysM (holdsOf H s) := by
  refine inc_ext (rkeys_inc H s) (keysM_inc hn s) fun x => ?_
  unfold rkeys
  rw [(addsN_is _ _ inc_nil).2, (keysM_perm _).mem_iff]
  unfold holdsOf prs
  rw [List.map_map]
  simp only [List.not_mem_nil, false_or]
  exact Iff.rfl
theorem rholders_eq {H : List LkE} (hn : H.Pairwise fun a b => ¬ (a.who = b.who ∧ a.s = b.s)) (s : Spot) : prs (rholdersL H s) = holdersL H s := by
  unfold rholdersL holdersL prs
  rw [List.map_map, rkeys_eq hn]
  rfl
def rforL (D : LkS) (who : Int) : List Int := match wishL D.W who with
  | none => []
  | some w => addsN (rbar D.H w.s who w.m) (tillL (prs (queueL D.H D.W w.s)) who)
theorem rfor_eq {D : LkS} (h : LInv D) (who : Int) : rforL D who = forL D who := by
  cases hw : wishL D.W who with
  | none => unfold rforL forL; rw [hw]
  | some e =>
    have h1 : rforL D who = addsN (rbar D.H e.s who e.m) (tillL (prs (queueL D.H D.W e.s)) who) := by unfold rforL; rw [hw]
    obtain ⟨h2, h3⟩ := addsN_is (tillL (prs (queueL D.H D.W e.s)) who) _ (rbar_inc D.H e.s who e.m)
    rw [h1]
    refine (for_eval hw h2 fun y => ?_).symm
    rw [h3, List.mem_append]
    refine or_congr ?_ Iff.rfl
    unfold rbar barL holdsOf prs
    rw [(addsN_is _ _ inc_nil).2, List.map_map]
    simp only [List.not_mem_nil, false_or, List.mem_map, List.mem_filter]
    constructor
    · rintro ⟨x, ⟨hx, hp⟩, rfl⟩
      unfold barP at hp
      rw [Bool.and_eq_true, Bool.and_eq_true, beq_iff_eq] at hp
      refine ⟨(x.who, heldL D.H x.who e.s), ⟨⟨x, ⟨hx, by rw [beq_iff_eq]; exact hp.1.1⟩, rfl⟩, ?_⟩, rfl⟩
      rw [← hp.1.1, heldL_mem h.hn hx]
      rw [Bool.and_eq_true]
      exact ⟨hp.1.2, hp.2⟩
    · rintro ⟨p, ⟨⟨x, ⟨hx, hs⟩, rfl⟩, hp⟩, rfl⟩
      refine ⟨x, ⟨hx, ?_⟩, rfl⟩
      rw [beq_iff_eq] at hs
      have hp2 : (x.who != who && !besM e.m (heldL D.H x.who e.s)) = true := hp
      rw [← hs, heldL_mem h.hn hx] at hp2
      unfold barP
      rw [hs, beq_self_eq_true, Bool.true_and]
      exact hp2
end Go.Proofs.YtokeciekncincabGreat
namespace Go.Proofs.YtokeciekncincabGreat
open Go Go.RowKit Go.Maps

theorem rfor_none {D : LkS} {who : Int} (h : wishL D.W who = none) : rforL D who = [] := by unfold rforL; rw [h]
theorem rfor_some {D : LkS} {who : Int} {x : LkE} (h : wishL D.W who = some x) : rforL D who = addsN (rbar D.H x.s who x.m) (tillL (prs (queueL D.H D.W x.s)) who) := by unfold rforL; rw [h]
theorem prs_get {l : List LkE} {k : Nat} {e : LkE} (h : l[k]? = some e) : (prs l)[k]? = some (e.who, e.m) := by
  unfold prs
  rw [List.getElem?_map, h]
  rfl
theorem prs_take_fst {l : List LkE} {k : Nat} {e : LkE} (h : l[k]? = some e) : ((prs l).take (k + 1)).map Prod.fst = ((prs l).take k).map Prod.fst ++ [e.who] := by
  rw [List.take_add_one, prs_get h, List.map_append]
  rfl
theorem till_len (r : List Int) (l : List LkE) (k : Nat) : (addsN r (((prs l).take k).map Prod.fst)).length ≤ r.length + l.length := by
  have h1 := addsN_len (((prs l).take k).map Prod.fst) r
  rw [List.length_map, List.length_take] at h1
  have h2 : (prs l).length = l.length := by unfold prs; rw [List.length_map]
  omega
set_option maxRecDepth 100000 in
set_option maxHeartbeats 8000000 in
theorem rfor_any {mb : Nat} {D : LkS} {S : Nat → Prop} (who : Int) (w : World) (h : DkA w mb D S) (hB : DkB D D.W.length) (hl : D.H.length ≤ 90000) (hlw : D.W.length ≤ 90000) :
    Calls Tryz.prog 37 #[mkp mb, .int .i64 who] w (NewI (rforL D who) w) := by
  have HA := Lib.hid h
  have HR0 : Hid (wishL D.W who = none → rforL D who = []) := rfor_none
  have HR1 : Hid (∀ x, wishL D.W who = some x → rforL D who = addsN (rbar D.H x.s who x.m) (tillL (prs (queueL D.H D.W x.s)) who)) := fun x => rfor_some
  obtain ⟨R, hR⟩ : ∃ R, rforL D who = R := ⟨_, rfl⟩
  rw [hR] at HR0 HR1 ⊢
  obtain ⟨hB1, hB2, hB3, hB4⟩ := hB
  have cW := rwish_any who w h (by omega)
  have cQ := fun (s : Spot) (w' : World) (hf : Fr w w' Nil) => rqueue_any s w' (HA.out.fr0 hf) (by omega) (by omega)
  obtain ⟨hv, wv, hg⟩ := h
  obtain ⟨ha, hc, rfl⟩ := hg.holds.shape
  obtain ⟨wa, wc, rfl⟩ := hg.wishes.shape
  have HQL : Hid (∀ s, (queueL D.H D.W s).length ≤ 90000) := fun s => Nat.le_trans (queueL_le _ _ _) hlw
  have HO := Lib.hid hg.holds
  have HOW := Lib.hid hg.wishes
  have HRT := Lib.hid hg.root
  have HHM := Lib.hid hB1
  have HWM := Lib.hid hB2
  generalize D.H = H at *
  generalize D.W = W at *
  clear hg hB1 hB2 hR
  go_enter Tryz.func37, Tryz.ntmps37
  go_wp2_with fail
  refine cW.mono ?_
  rintro e w' ⟨r, rfl, hr, rfl⟩
  clear cW
  rcases hr with ⟨rfl, hn⟩ | ⟨j, x, rfl, hx, hwx⟩
  · have HEND : Hid (R = []) := HR0.out hn
    go_wp2_with fail
    go_ret
    refine ⟨_, rfl, ?_, (fun k hk => by cases hk), Fr.refl _ _⟩
    rw [HEND.out]
    exact World.ownsRow_nil _ _ _ _
  · obtain ⟨w, rfl⟩ : ∃ w1 : World, w1 = w' := ⟨_, rfl⟩
    have HRX : Hid (R = addsN (rbar H x.s who x.m) (tillL (prs (queueL H W x.s)) who)) := HR1.out x hwx
    have m2 : w.cell? ⟨mb, 2, none⟩ = some (.slice wa W.length wc) := HRT.out.cell 2
    have hj : j < W.length := (List.getElem?_eq_some_iff.1 hx).1
    have hji : (j : Int) < (W.length : Int) := by omega
    have hj0 : (0 : Int) ≤ (j : Int) := by omega
    have HXM : Hid (ModeOk x.m) := HWM.out x (List.mem_of_getElem? hx)
    obtain ⟨b2, cap2, hvv, _, hcl⟩ := HOW.out.form (by omega)
    simp only [Value.slice.injEq, true_and] at hvv
    obtain ⟨rfl, rfl⟩ := hvv
    obtain ⟨p0, p1, p2, p3, p4⟩ := hcl j x hx
    obtain ⟨w1, hw1⟩ : ∃ w1, w.alloc (.cells #[.int .i64 x.s.1, .bool x.s.2.1, .int .i64 x.s.2.2, .int .i64 x.who, .int .u8 x.m] 96) = w1 := ⟨_, rfl⟩
    have hf1 : Fr w w1 Nil := by rw [← hw1]; exact (Fr.refl w Nil).alloc _
    have hb1 : Bk w1 w.heap.size 96 [.int .i64 x.s.1, .bool x.s.2.1, .int .i64 x.s.2.2, .int .i64 x.who, .int .u8 x.m] := by rw [← hw1]; exact Bk.new w _ _
    have HF1 := Lib.hid hf1
    have HB1 := Lib.hid hb1
    have cQx := cQ x.s
    have HQX : Hid ((queueL H W x.s).length ≤ 90000) := HQL.out x.s
    clear hcl hx hwx HR0 HR1 hf1 hb1 cQ HQL
    obtain ⟨⟨x1, x2, x3⟩, xw, xm⟩ := x
    dsimp only at p0 p1 p2 p3 p4 hw1 cQx
    have HW1 := Lib.hid hw1
    clear hw1
    go_wp2_with fail
    try rw [HW1.out]
    clear m2 p0 p1 p2 p3 p4
    go_loopw [7, 8] (fun vo vi wr => ∃ (i : Nat) (vn : Value), vi = .int .i64 (i : Int) ∧ i ≤ H.length ∧ vn = vo ∧ Hid (NewN w.heap.size wr vn (rbar (H.take i) (x1, x2, x3) who xm)) ∧ Hid (Fr w1 wr Nil)) (fun _ vi _ => H.length - (intOf vi).toNat)
    case atStart => exact ⟨0, _, by go_num, by omega, rfl, NewN.nil _ _, Fr.refl _ _⟩
    case round =>
      obtain ⟨i, vn, rfl, hi, rfl, HN, HF⟩ := hrel
      obtain ⟨wo, rfl⟩ : ∃ wo : World, wo = wr := ⟨_, rfl⟩
      have HFW := Lib.hid (HF1.out.trans0 HF.out)
      have m1 : wo.cell? ⟨mb, 1, none⟩ = some (.slice ha H.length hc) := (HRT.out.fr HFW.out fun h => h).cell 1
      have hbo := HB1.out.fr HF.out (fun h => h)
      have r0 : wo.cell? ⟨w.heap.size, 0, none⟩ = some (.int .i64 x1) := hbo.cell 0
      have r1 : wo.cell? ⟨w.heap.size, 1, none⟩ = some (.bool x2) := hbo.cell 1
      have r2 : wo.cell? ⟨w.heap.size, 2, none⟩ = some (.int .i64 x3) := hbo.cell 2
      have r4 : wo.cell? ⟨w.heap.size, 4, none⟩ = some (.int .u8 xm) := hbo.cell 4
      clear hbo
      by_cases hlt : i < H.length
      · have hil : (i : Int) < (H.length : Int) := by omega
        obtain ⟨b, cap', hvv, _, hcl⟩ := HO.out.form (by omega)
        simp only [Value.slice.injEq, true_and] at hvv
        obtain ⟨rfl, rfl⟩ := hvv
        obtain ⟨e, he⟩ : ∃ e, H[i]? = some e := ⟨_, List.getElem?_eq_getElem hlt⟩
        obtain ⟨p0, p1, p2, p3, p4⟩ := hcl i e he
        replace p0 := HFW.out.cell p0 (fun h => h)
        replace p1 := HFW.out.cell p1 (fun h => h)
        replace p2 := HFW.out.cell p2 (fun h => h)
        replace p3 := HFW.out.cell p3 (fun h => h)
        replace p4 := HFW.out.cell p4 (fun h => h)
        have HTK : Hid (rbar (H.take (i + 1)) (x1, x2, x3) who xm = if (decide (e.s = (x1, x2, x3)) && (!(e.who == who) && !besM xm e.m)) then addN (rbar (H.take i) (x1, x2, x3) who xm) e.who else rbar (H.take i) (x1, x2, x3) who xm) := by
          show _ = _
          rw [rbar_take he]
          unfold barP
          rw [Bool.and_assoc, beq_spot]
          rfl
        have HEM := Lib.hid (HHM.out e (List.mem_of_getElem? he))
        have cB := rbes_any HXM.out HEM.out
        have heq := Tryz.eqSp e.s (x1, x2, x3)
        have cN : ∀ w', Fr wo w' Nil → _ := fun w' hf => rnum_any e.who w' (HN.out.fr0 hf).1 (rbar_inc _ _ _ _) (by have := rbar_take_len H (x1, x2, x3) who xm i; omega)
        obtain ⟨w3, hw3⟩ : ∃ w3, wo.alloc (.cells #[.int .i64 e.s.1, .bool e.s.2.1, .int .i64 e.s.2.2, .int .i64 e.who, .int .u8 e.m] 96) = w3 := ⟨_, rfl⟩
        have hf3 : Fr wo w3 Nil := by rw [← hw3]; exact (Fr.refl wo Nil).alloc _
        have hb3 : Bk w3 wo.heap.size 96 [.int .i64 e.s.1, .bool e.s.2.1, .int .i64 e.s.2.2, .int .i64 e.who, .int .u8 e.m] := by rw [← hw3]; exact Bk.new wo _ _
        have q0 := hb3.cell 0
        have q1 := hb3.cell 1
        have q2 := hb3.cell 2
        have q3 := hb3.cell 3
        have q4 := hb3.cell 4
        have t0 := hf3.cell r0 (fun h => h)
        have t1 := hf3.cell r1 (fun h => h)
        have t2 := hf3.cell r2 (fun h => h)
        have t4 := hf3.cell r4 (fun h => h)
        have HF3 := Lib.hid (HF.out.trans0 hf3)
        have HFo3 := Lib.hid hf3
        have HB3 := Lib.hid hb3
        have HNo := HN
        rw [← hw3] at q0 q1 q2 q3 q4 t0 t1 t2 t4
        generalize hd : decide (e.s = (x1, x2, x3)) = dd at *
        generalize hbes : besM xm e.m = be at *
        clear hcl he hd hbes hf3 hb3
        obtain ⟨⟨e1, e2, e3⟩, ew, em⟩ := e
        dsimp only at p0 p1 p2 p3 p4 q0 q1 q2 q3 q4 t0 t1 t2 t4 hw3 cN
        dsimp only at HTK HB3
        have HW3 := Lib.hid hw3
        clear hw3
        have HNO : Hid (∀ w', Fr wo w' Nil → (dd && (!(ew == who) && !be)) = false → NewN w.heap.size w' vn (rbar (H.take (i + 1)) (x1, x2, x3) who xm)) := fun w' hf h0 => by
          rw [HTK.out, h0, if_neg (by decide)]
          exact HN.out.fr0 hf
        cases dd with
        | false =>
          go_wp2_with fail
          try rw [HW3.out]
          go_roundw
          case rel => exact ⟨i + 1, _, by go_num, by omega, rfl, HNO.out _ HFo3.out rfl, HF3.out⟩
          case measure => simp [intOf]; omega
        | true =>
          have hne : (ew != who) = !(ew == who) := rfl
          cases hw : (ew == who) with
          | true =>
            rw [hw] at hne
            go_wp2_with fail
            try rw [HW3.out]
            go_roundw
            case rel => exact ⟨i + 1, _, by go_num, by omega, rfl, HNO.out _ HFo3.out (by rw [hw]; rfl), HF3.out⟩
            case measure => simp [intOf]; omega
          | false =>
            rw [hw] at hne
            go_wp2_with fail
            try rw [HW3.out]
            refine (cB _).mono ?_
            rintro e w4 ⟨rfl, hf4⟩
            have HF4 := Lib.hid (HF3.out.trans0 hf4)
            have HFo4 := Lib.hid (HFo3.out.trans0 hf4)
            have y3 : w4.cell? ⟨wo.heap.size, 3, none⟩ = some (.int .i64 ew) := (HB3.out.fr hf4 fun h => h).cell 3
            clear hf4
            cases be with
            | true =>
              go_wp2_with fail
              go_roundw
              case rel => exact ⟨i + 1, _, by go_num, by omega, rfl, HNO.out _ HFo4.out (by rw [hw]; rfl), HF4.out⟩
              case measure => simp [intOf]; omega
            | false =>
              have cN4 := cN _ HFo4.out
              have HT1 : Hid (rbar (H.take (i + 1)) (x1, x2, x3) who xm = addN (rbar (H.take i) (x1, x2, x3) who xm) ew) := by
                show _ = _
                rw [HTK.out, hw]; rfl
              clear cN q0 q1 q2 q3 q4 t0 t1 t2 t4 p0 p1 p2 p3 p4
              go_wp2_with fail
              refine cN4.mono ?_
              rintro e w5 ⟨v', rfl, ho, hb, hf⟩
              have HN5 : Hid (NewN w.heap.size w5 v' (rbar (H.take (i + 1)) (x1, x2, x3) who xm)) := by
                have h9 : NewN w.heap.size w5 v' (rbar (H.take (i + 1)) (x1, x2, x3) who xm) := by
                  rw [HT1.out]
                  refine ⟨ho, fun k hk => ?_⟩
                  rcases hb k hk with h | h
                  · exact HNo.out.2 k h
                  · have h1 := HF1.out.size
                    have h2 := HF4.out.size
                    omega
                exact h9
              have HF5 := Lib.hid (HF4.out.trans0 hf)
              clear ho hb hf cN4
              go_wp2_with fail
              go_roundw
              case rel => exact ⟨i + 1, _, by go_num, by omega, rfl, HN5, HF5⟩
              case measure => simp [intOf]; omega
      · obtain rfl : i = H.length := by omega
        have HN2 := HN.out
        rw [List.take_length] at HN2
        have HN3 := Lib.hid HN2
        have hrl := rbar_len H (x1, x2, x3) who xm
        have HRI := Lib.hid (rbar_inc H (x1, x2, x3) who xm)
        obtain ⟨rb, hrb⟩ : ∃ rb, rbar H (x1, x2, x3) who xm = rb := ⟨_, rfl⟩
        rw [hrb] at HN3 hrl HRI
        have HRX2 : Hid (R = addsN rb (tillL (prs (queueL H W (x1, x2, x3))) who)) := by
          show _ = _
          rw [← hrb]; exact HRX.out
        have cQo := cQx _ HFW.out
        obtain ⟨ql, hql⟩ : ∃ ql, queueL H W (x1, x2, x3) = ql := ⟨_, rfl⟩
        have HQX2 : Hid (ql.length ≤ 90000) := by rw [← hql]; exact HQX
        rw [hql] at HRX2 cQo
        clear HN HN2 hrb hql HRX HQX r4
        go_wp2_with fail
        refine cQo.mono ?_
        rintro e wq ⟨v', rfl, hqn, hfq⟩
        obtain ⟨qa, qc, rfl⟩ := hqn.1.shape
        have HQ := Lib.hid hqn
        have HFQ := Lib.hid (HFW.out.trans0 hfq)
        have HNQ := Lib.hid (HN3.out.fr0 hfq)
        clear hqn hfq cQo m1 r0 r1 r2
        go_wp2_with fail
        go_loopw [7, 11] (fun vo vi wr => ∃ (k : Nat) (vn : Value), vi = .int .i64 (k : Int) ∧ k ≤ ql.length ∧ vn = vo ∧ Hid (∀ p ∈ (prs ql).take k, p.1 ≠ who) ∧ Hid (NewN w.heap.size wr vn (addsN rb (((prs ql).take k).map Prod.fst))) ∧ Hid (Fr wq wr Nil)) (fun _ vi _ => ql.length - (intOf vi).toNat)
        case atStart => exact ⟨0, _, by go_num, by omega, rfl, (fun p hp => by simp at hp), HNQ.out, Fr.refl _ _⟩
        case round =>
          obtain ⟨k, vn, rfl, hk, rfl, HNE, HNK, HFK⟩ := hrel
          obtain ⟨wk, rfl⟩ : ∃ wk : World, wk = wr := ⟨_, rfl⟩
          have HFA := Lib.hid (HFQ.out.trans0 HFK.out)
          have hqx := HQX2.out
          by_cases hlt : k < ql.length
          · have hil : (k : Int) < (ql.length : Int) := by omega
            obtain ⟨b, cap', hvv, _, hcl⟩ := HQ.out.1.form (by omega)
            simp only [Value.slice.injEq, true_and] at hvv
            obtain ⟨rfl, rfl⟩ := hvv
            obtain ⟨e, he⟩ : ∃ e, ql[k]? = some e := ⟨_, List.getElem?_eq_getElem hlt⟩
            obtain ⟨_, _, _, p3, _⟩ := hcl k e he
            replace p3 := HFK.out.cell p3 (fun h => h)
            have HGET := Lib.hid (prs_get he)
            have HTF := Lib.hid (prs_take_fst he)
            obtain ⟨y, hy⟩ : ∃ y, e.who = y := ⟨_, rfl⟩
            rw [hy] at p3 HGET HTF
            clear hcl he hy
            cases hw : (y == who) with
            | true =>
              have hne : (y != who) = false := by simp [bne, hw]
              have HEND : Hid (NewI R w (.returned vn) wk) := by
                refine ⟨_, rfl, ?_, HNK.out.2, HFA.out⟩
                have h1 := HNK.out.1
                rw [← tillL_stop HGET.out HNE.out (eq_of_beq hw), ← HRX2.out] at h1
                exact h1
              go_wp2_with fail
              go_ret
              exact HEND.out
            | false =>
              have hne : (y != who) = true := by simp [bne, hw]
              have HNE2 : Hid (∀ p ∈ (prs ql).take (k + 1), p.1 ≠ who) := fun p hp => by
                rw [List.take_add_one, HGET.out] at hp
                rcases List.mem_append.1 hp with hp | hp
                · exact HNE.out p hp
                · simp only [Option.toList_some, List.mem_singleton] at hp
                  subst hp
                  exact fun h => by rw [beq_eq_false_iff_ne] at hw; exact hw h
              have cN := rnum_any y wk HNK.out.1 (addsN_is _ _ HRI.out).1 (by have := till_len rb ql k; have := HQX2.out; omega)
              go_wp2_with fail
              refine cN.mono ?_
              rintro e w5 ⟨v', rfl, ho, hb, hf⟩
              have HN5 : Hid (NewN w.heap.size w5 v' (addsN rb (((prs ql).take (k + 1)).map Prod.fst))) := by
                have h9 : NewN w.heap.size w5 v' (addsN rb (((prs ql).take (k + 1)).map Prod.fst)) := by
                  rw [HTF.out, addsN_snoc]
                  refine ⟨ho, fun k hk => ?_⟩
                  rcases hb k hk with h | h
                  · exact HNK.out.2 k h
                  · have h1 := HFA.out.size
                    omega
                exact h9
              have HF5 := Lib.hid (HFK.out.trans0 hf)
              clear ho hb hf cN
              go_wp2_with fail
              go_roundw
              case rel => exact ⟨k + 1, _, by go_num, by omega, rfl, HNE2, HN5, HF5⟩
              case measure => simp [intOf]; omega
          · obtain rfl : k = ql.length := by omega
            have HEND : Hid (NewI R w (.returned vn) wk) := by
              refine ⟨_, rfl, ?_, HNK.out.2, HFA.out⟩
              have h1 := HNK.out.1
              have h2 : (prs ql).take ql.length = prs ql := List.take_of_length_le (by unfold prs; rw [List.length_map]; exact Nat.le_refl _)
              have h3 := HNE.out
              rw [h2] at h1 h3
              rw [← tillL_all h3, ← HRX2.out] at h1
              exact h1
            go_wp2_with fail
            go_ret
            exact HEND.out
end Go.Proofs.YtokeciekncincabGreat
