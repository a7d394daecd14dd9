/-
  Walk of slices.Compact of spots.
  No condition but sizes.
-/
import Derived.Test.YtokeciekncincabGreatPkC10
import Derived.Test.YtokeciekncincabGreatPkC1
import Derived.BigQuiet
import Derived.Deep.QuietTactic
namespace Go.Proofs.YtokeciekncincabGreat
open Go Go.RowKit Go.Maps


def CompRet (v : Value) (l : List Spot) (w : World) (e : Ending) (w' : World) : Prop :=
  ∃ v', e = .returned v' ∧ OwnSp w' v' l ∧ (∀ k, v'.ownBlock = some k → v.ownBlock = some k) ∧ Fr w w' (ownOf v)
set_option maxRecDepth 100000 in
set_option maxHeartbeats 4000000 in
theorem comp_any {w : World} {v : Value} {l : List Spot} (hv : OwnSp w v l) (hl : l.length ≤ 1000000) :
    Calls Tryz.prog 52 #[v] w (CompRet v (packS l) w) := by
  have HV := Lib.hid hv
  have heq := Tryz.eqSp
  obtain ⟨a, cap, rfl⟩ := hv.shape
  clear hv
  by_cases h2 : l.length < 2
  · have HP := Lib.hid (packS_one (l := l) (by omega))
    have h2' : (l.length : Int) < 2 := by omega
    go_enter Tryz.func52, Tryz.ntmps52
    go_wp2_with fail
    go_ret
    rw [HP.out]
    exact ⟨_, rfl, HV.out, fun k hk => hk, Fr.refl _ _⟩
  · have h2' : ¬ (l.length : Int) < 2 := by omega
    obtain ⟨b, cap', hvv, hnc, _⟩ := HV.out.form (by omega)
    simp only [Value.slice.injEq, true_and] at hvv
    obtain ⟨rfl, rfl⟩ := hvv
    go_enter Tryz.func52, Tryz.ntmps52
    go_wp2_with fail
    go_loopw [3] (fun vk wr => ∃ k : Nat, vk = .int .i64 (k : Int) ∧ 1 ≤ k ∧ k ≤ l.length ∧ Hid (packS (l.take k) = l.take k) ∧ Hid (Fr w wr Nil)) (fun vk _ => l.length - (intOf vk).toNat)
    case atStart => exact ⟨1, by go_num, by omega, by omega, packS_one (by rw [List.length_take]; omega), Fr.refl _ _⟩
    case round =>
      obtain ⟨k, rfl, hk1, hkl, HP, HW⟩ := hrel
      obtain ⟨wo, rfl⟩ : ∃ wo : World, wo = wr := ⟨_, rfl⟩
      by_cases hlt : k < l.length
      · have hki : (k : Int) < (l.length : Int) := by omega
        have hk0 : (1 : Int) ≤ (k : Int) := by omega
        have HO := Lib.hid (HV.out.fr HW.out fun _ _ h => h)
        obtain ⟨b', cap'', hvv, _, hcl⟩ := HO.out.form (by omega)
        simp only [Value.slice.injEq, Option.some.injEq, Addr.mk.injEq, and_true, true_and] at hvv
        obtain ⟨rfl, rfl⟩ := hvv
        have hga := List.getElem?_eq_getElem hlt
        have hgb := List.getElem?_eq_getElem (show k - 1 < l.length by omega)
        generalize l[k] = x at hga
        generalize l[k-1] = y at hgb
        obtain ⟨p0, p1, p2⟩ := hcl k x hga
        obtain ⟨q0, q1, q2⟩ := hcl (k-1) y hgb
        have HGA := Lib.hid hga
        have HGB := Lib.hid hgb
        have hkk : ((k : Int) - 1) = ((k - 1 : Nat) : Int) := by omega
        have heq := Tryz.eqSp x y
        obtain ⟨x1, x2, x3⟩ := x
        obtain ⟨y1, y2, y3⟩ := y
        clear hcl hga hgb
        go_wp2_with fail
        go_quiet (fail)
        rename_i nq
        have HWQ := Lib.hid (HW.out.trans0 (frq wo nq))
        have HOQ := Lib.hid (HO.out.fr (frq wo nq) fun _ _ h => h)
        obtain ⟨wq, hwq⟩ : ∃ wq, wo.drewN nq = wq := ⟨_, rfl⟩
        rw [hwq] at HWQ HOQ ⊢
        generalize hb : (decide (x1 = y1) && (decide (x2 = y2) && decide (x3 = y3))) = bb
        clear heq p0 p1 p2 q0 q1 q2 hwq
        cases bb with
        | false =>
          have HNE : Hid ((y1, y2, y3) ≠ (x1, x2, x3)) := fun e => by
            simp only [Prod.mk.injEq] at e
            obtain ⟨rfl, rfl, rfl⟩ := e
            simp at hb
          clear hb
          go_wp2_with fail
          go_roundw
          case rel =>
            refine ⟨k + 1, by go_num, by omega, by omega, ?_, HWQ⟩
            show packS (l.take (k + 1)) = l.take (k + 1)
            rw [packS_take hk1 HGA.out HGB.out, if_neg HNE.out, HP.out, List.take_add_one, HGA.out]
            rfl
          case measure => simp [intOf]; omega
        | true =>
          have hxy : (y1, y2, y3) = (x1, x2, x3) := by
            simp only [Bool.and_eq_true, decide_eq_true_eq] at hb
            obtain ⟨rfl, rfl, rfl⟩ := hb
            rfl
          have HD : Hid (CmpAt l l k (k + 1)) := CmpAt.start hk1 HGA.out (by rw [HGB.out, hxy]) HP.out
          have hck : ¬ cap = k := by omega
          clear hb hxy
          go_wp2_with fail
          clear HP HGA HGB HO hk0 hki hkk
          go_loopw [3, 5] (fun vk vj wr => ∃ (kc j : Nat) (ps : List Spot), vk = .int .i64 (kc : Int) ∧ vj = .int .i64 (j : Int) ∧ 1 ≤ j ∧ k ≤ kc ∧ Hid (CmpAt l ps kc (k + j)) ∧ Hid (OwnSp wr (.slice (some ⟨b, 0, none⟩) ps.length cap) ps) ∧ Hid (Fr w wr (ownOf (.slice (some ⟨b, 0, none⟩) l.length cap)))) (fun _ vj _ => l.length - k - (intOf vj).toNat)
          case atStart => exact ⟨k, 1, l, rfl, by go_num, by omega, by omega, HD.out, HOQ.out, HWQ.out.of_nil⟩
          case round =>
            clear HOQ HWQ HD HW
            obtain ⟨kc, j, ps, rfl, rfl, hj1, hkc, HD, HO, HW⟩ := hrel
            obtain ⟨wi, rfl⟩ : ∃ wi : World, wi = wr := ⟨_, rfl⟩
            have hjl := HD.out.le
            have hij := HD.out.lt
            have hlk : ((l.length - k : Nat) : Int) = (l.length : Int) - (k : Int) := by omega
            by_cases hlt2 : k + j < l.length
            · have hjn : j < l.length - k := by omega
              have hki2 : (j : Int) < ((l.length - k : Nat) : Int) := by omega
              have hk02 : (1 : Int) ≤ (j : Int) := by omega
              have hjj : ((j : Int) - 1) = ((j - 1 : Nat) : Int) := by omega
              have hj1n : ((j - 1 : Nat) : Int) < ((l.length - k : Nat) : Int) := by omega
              have hkcl : (kc : Int) < (l.length : Int) := by omega
              obtain ⟨b', cap'', hvv, _, hcl⟩ := HO.out.form (by rw [HD.out.len]; omega)
              simp only [Value.slice.injEq, Option.some.injEq, Addr.mk.injEq, and_true, true_and] at hvv
              obtain ⟨rfl, rfl⟩ := hvv
              have hga := List.getElem?_eq_getElem hlt2
              have hgb := List.getElem?_eq_getElem (show k + j - 1 < l.length by omega)
              generalize l[k+j] = x at hga
              generalize l[k+j-1] = y at hgb
              obtain ⟨ha1, ha2⟩ := HD.out.at
              have hpa := ha1.trans hga
              have hpb := ha2.trans hgb
              obtain ⟨p0, p1, p2⟩ := hcl (k+j) x hpa
              obtain ⟨q0, q1, q2⟩ := hcl (k+j-1) y hpb
              have hip : kc < ps.length := by rw [HD.out.len]; omega
              obtain ⟨zz, hzz⟩ : ∃ zz, ps[kc]? = some zz := ⟨_, List.getElem?_eq_getElem hip⟩
              obtain ⟨z0, z1, z2⟩ := hcl kc zz hzz
              rw [Nat.add_mul] at p0 p1 p2
              rw [show (k + j - 1) * 3 = k * 3 + (j - 1) * 3 by omega] at q0 q1 q2
              have HGA := Lib.hid hga
              have HGB := Lib.hid hgb
              have heq := Tryz.eqSp x y
              obtain ⟨x1, x2, x3⟩ := x
              obtain ⟨y1, y2, y3⟩ := y
              obtain ⟨e1, e2, e3⟩ := zz
              clear hcl hga hgb ha1 ha2 hpa hpb hip hzz
              go_wp2_with fail
              go_quiet (fail)
              rename_i nq
              have hfq := frq wi nq
              have HWQ := Lib.hid (HW.out.trans hfq.of_nil fun _ _ h => h)
              have HOQ := Lib.hid (HO.out.fr hfq fun _ _ h => h)
              replace p0 := hfq.cell p0 (fun h => h)
              replace p1 := hfq.cell p1 (fun h => h)
              replace p2 := hfq.cell p2 (fun h => h)
              replace z0 := hfq.cell z0 (fun h => h)
              replace z1 := hfq.cell z1 (fun h => h)
              replace z2 := hfq.cell z2 (fun h => h)
              obtain ⟨wq2, hwq⟩ : ∃ wq2, wi.drewN nq = wq2 := ⟨_, rfl⟩
              rw [hwq] at HWQ HOQ p0 p1 p2 z0 z1 z2 ⊢
              generalize hb : (!decide (x1 = y1) || (!decide (x2 = y2) || !decide (x3 = y3))) = bb
              clear heq q0 q1 q2 hwq hfq
              cases bb with
              | false =>
                have HE : Hid ((y1, y2, y3) = (x1, x2, x3)) := by
                  simp only [Bool.or_eq_false_iff, Bool.not_eq_false', decide_eq_true_eq] at hb
                  obtain ⟨rfl, rfl, rfl⟩ := hb
                  rfl
                clear hb
                go_wp2_with fail
                go_roundw
                case rel => exact ⟨kc, j + 1, ps, rfl, by go_num, by omega, hkc, HD.out.skip HGA.out HGB.out HE.out, HOQ.out, HWQ.out⟩
                case measure => simp [intOf]; omega
              | true =>
                have HNE : Hid ((y1, y2, y3) ≠ (x1, x2, x3)) := fun e => by
                  simp only [Prod.mk.injEq] at e
                  obtain ⟨rfl, rfl, rfl⟩ := e
                  simp at hb
                have f0 : wq2.frozen? ⟨b, kc * 3, none⟩ = false := HOQ.out.free rfl _
                have f1 : wq2.frozen? ⟨b, kc * 3 + 1, none⟩ = false := HOQ.out.free rfl _
                have f2 : wq2.frozen? ⟨b, kc * 3 + 2, none⟩ = false := HOQ.out.free rfl _
                clear hb
                go_wp2_with fail
                go_roundw
                case rel =>
                  refine ⟨kc + 1, j + 1, ps.set kc (x1, x2, x3), by go_num, by go_num, by omega, by omega, HD.out.keep HGA.out HGB.out HNE.out, HOQ.out.set kc (x1, x2, x3), ?_⟩
                  exact Fr.setCell (p := ⟨b, kc * 3 + 2, none⟩) (Fr.setCell (p := ⟨b, kc * 3 + 1, none⟩) (Fr.setCell (p := ⟨b, kc * 3, none⟩) HWQ.out (fun _ => rfl) _) (fun _ => rfl) _) (fun _ => rfl) _
                case measure => simp [intOf]; omega
            · obtain rfl : j = l.length - k := by omega
              have HTK := HO.out.take rfl (show kc ≤ ps.length by rw [HD.out.len]; omega)
              have hli : (ps.take kc).length = kc := by rw [List.length_take, HD.out.len]; omega
              unfold OwnSp at HTK
              rw [hli] at HTK
              obtain ⟨w2, hrun, hown2, hgr2⟩ := run_clear_many (P := Tryz.prog) wi 50 0 30 _ 3 (l.length - kc) Tryz.underlying50 Tryz.zeroSpot rfl (zeros_one _ (fun i hi => by
                have : i = 0 ∨ i = 1 ∨ i = 2 := by simp [Value.cells] at hi; omega
                rcases this with rfl | rfl | rfl <;> rfl) _) b kc cap _ HTK (by omega) (by omega) (cap - kc)
              have HO2 := Lib.hid hown2
              have HG2 := Lib.hid hgr2
              have b5 : ¬ cap = kc := by omega
              have hil : (kc : Int) ≤ (l.length : Int) := by omega
              have HLI := Lib.hid hli
              clear hown2 hgr2 HTK hli
              go_wp2_with fail
              go_ret
              refine ⟨_, rfl, ?_, fun k hk => hk, HW.out.grown HG2.out fun k hk _ => ?_⟩
              · have h1 := HO2.out
                have h2 := HD.out.got
                rw [show k + (l.length - k) = l.length by omega, List.take_length] at h2
                rw [h2] at h1
                have h3 := HLI.out
                rw [h2] at h3
                unfold OwnSp
                rw [h3]
                exact h1
              · cases hk; rfl
      · obtain rfl : k = l.length := by omega
        have HP2 : Hid (packS l = l) := by have := HP.out; rwa [List.take_length] at this
        go_wp2_with fail
        go_ret
        rw [HP2.out]
        exact ⟨_, rfl, HV.out.fr HW.out (fun _ _ h => h), fun k hk => hk, HW.out.of_nil⟩
end Go.Proofs.YtokeciekncincabGreat
