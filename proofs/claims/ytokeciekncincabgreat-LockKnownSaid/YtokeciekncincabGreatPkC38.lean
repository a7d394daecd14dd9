/-
  Walk of the law's beside.
  No condition but sizes.
  Walk of the law's blocked.
  No condition but sizes.
-/
import Derived.Test.YtokeciekncincabGreatPkC34
import Derived.Test.YtokeciekncincabGreatPkC8
import Derived.Test.YtokeciekncincabGreatPkC9
import Derived.BigQuiet
import Derived.Deep.CutBlock
import Derived.Deep.QuietTactic
namespace Go.Proofs.YtokeciekncincabGreat
open Go Go.RowKit Go.Maps

def AllBes (l : List (Int × Int)) : Prop := (∀ p ∈ l, ModeOk p.2 ∧ p.2 ≠ 0) ∧ ∀ (i k : Nat) p q, l[i]? = some p → l[k]? = some q → k < i → besM p.2 q.2 = true
set_option maxRecDepth 100000 in
set_option maxHeartbeats 4000000 in
theorem lbes_any {v : Value} {l : List (Int × Int)} {w : World} (hv : SlAt w 2 v l.length (l.flatMap hold2)) (hb : AllBes l) (hl : l.length ≤ 1000000) :
    Calls Tryz.prog 60 #[v] w fun e w' => e = .returned (.bool true) ∧ Fr w w' Nil := by
  obtain ⟨a, cap, rfl⟩ := hv.shape
  have HV := Lib.hid hv
  have HB := Lib.hid hb
  clear hv hb
  go_enter Tryz.func60, Tryz.ntmps60
  go_wp2_with fail
  go_loopw [3] (fun vi wr => ∃ i : Nat, vi = .int .i64 (i : Int) ∧ i ≤ l.length ∧ Hid (Fr w wr Nil)) (fun vi _ => l.length - (intOf vi).toNat)
  case atStart => exact ⟨0, by go_num, by omega, Fr.refl _ _⟩
  case round =>
    obtain ⟨i, rfl, hi, HF⟩ := hrel
    obtain ⟨wo, rfl⟩ : ∃ wo : World, wo = wr := ⟨_, rfl⟩
    by_cases hlt : i < l.length
    · have hil : (i : Int) < (l.length : Int) := by omega
      obtain ⟨b, off, cap', hv, hc⟩ := flat_form (n := 2) (f := hold2) (fun _ => rfl) (by decide) (HV.out.fr0 HF.out) (by omega)
      simp only [Value.slice.injEq, true_and] at hv
      obtain ⟨rfl, rfl⟩ := hv
      obtain ⟨p, hp⟩ : ∃ p, l[i]? = some p := ⟨_, List.getElem?_eq_getElem hlt⟩
      have hpm := HB.out.1 p (List.mem_iff_getElem?.2 ⟨i, hp⟩)
      have p1 := hc i p hp 1 _ rfl
      have HC := Lib.hid hc
      have HP := Lib.hid hp
      have HPM := Lib.hid hpm.1
      have hne : (p.2 == 0) = false := by rw [beq_eq_false_iff_ne]; exact hpm.2
      obtain ⟨p1', p2'⟩ := p
      clear hc hp hpm
      go_wp2_with fail
      go_loopw [4] (fun vk wx => ∃ k : Nat, vk = .int .i64 (k : Int) ∧ k ≤ i ∧ Hid (Fr wo wx Nil)) (fun vk _ => i - (intOf vk).toNat)
      case atStart => exact ⟨0, by go_num, by omega, Fr.refl _ _⟩
      case round =>
        obtain ⟨k, rfl, hk, HG⟩ := hrel
        obtain ⟨wi, rfl⟩ : ∃ wi : World, wi = wr := ⟨_, rfl⟩
        by_cases hlk : k < i
        · have hki : (k : Int) < (i : Int) := by omega
          have hkl : (k : Int) < (l.length : Int) := by omega
          obtain ⟨q, hq⟩ : ∃ q, l[k]? = some q := ⟨_, List.getElem?_eq_getElem (show k < l.length by omega)⟩
          have hqm := HB.out.1 q (List.mem_iff_getElem?.2 ⟨k, hq⟩)
          have hbq := HB.out.2 i k _ _ HP.out hq hlk
          have q1 := HG.out.cell (HC.out k q hq 1 _ rfl) (fun h => h)
          have p1 := HG.out.cell p1 (fun h => h)
          have cB := rbes_any HPM.out hqm.1
          rw [hbq] at cB
          obtain ⟨q1', q2'⟩ := q
          have kp : ∀ w', KeptN wi w' → w'.cell? ⟨b, off + i * 2 + 1, none⟩ = some (.int .u8 p2') := KeptN.cell p1
          have kq : ∀ w', KeptN wi w' → w'.cell? ⟨b, off + k * 2 + 1, none⟩ = some (.int .u8 q2') := KeptN.cell q1
          clear hq hqm hbq
          go_wp2_with fail
          refine wp_region_sink 11 (KeptN wi) (by kernel_rfl) ?_
          have hSa : KeptN wi wi.drew := KeptN.start wi
          refine tk 0 hSa ?_
          refine tk 1 hSa ?_
          refine tk 2 hSa ?_
          refine tk 3 hSa ?_
          try simp only [Act.put, sA, sB, sC]
          refine tk 4 hSa ?_ (hy := by intro _ w; have ckp := kp _ w; go_simp <;> with_reducible rfl)
          try simp only [Act.put, sA, sB, sC]
          refine tk 5 hSa ?_
          refine tk 6 hSa ?_
          refine tk 7 hSa ?_
          refine tk 8 hSa ?_
          try simp only [Act.put, sA, sB, sC]
          refine tk 9 hSa ?_ (hy := by intro _ w; have ckq := kq _ w; go_simp <;> with_reducible rfl)
          try simp only [Act.put, sA, sB, sC]
          refine on1 10 fun K hK => ?_
          go_simp
          refine (cB _).mono ?_
          rintro e wj ⟨rfl, hwj⟩
          have hSb : KeptN wi wj := hSa.next hwj
          refine hK.out _ _ hSb ?_
          clear hK K
          try simp only [Act.put, sA, sB, sC]
          refine wpAnyS_last (i := 11) rfl (by kernel_rfl) (by decide) (by kernel_rfl) (by rfl) fun K hK => ?_
          go_simp
          refine hK.out _ _ ?_
          clear hK K
          have HG2 := Lib.hid (HG.out.trans0 hSb.fr)
          clear hSa hSb kp kq cB hwj
          go_wp2_with fail
          go_roundw
          case rel => exact ⟨k + 1, by go_num, by omega, HG2⟩
          case measure => simp [intOf]; omega
        · obtain rfl : k = i := by omega
          have HF2 := Lib.hid (HF.out.trans0 HG.out)
          clear p1
          go_wp2_with fail
          go_roundw
          case rel => exact ⟨k + 1, by go_num, by omega, HF2⟩
          case measure => simp [intOf]; omega
    · obtain rfl : i = l.length := by omega
      go_wp2_with fail
      go_ret
      exact ⟨rfl, HF.out⟩
end Go.Proofs.YtokeciekncincabGreat
namespace Go.Proofs.YtokeciekncincabGreat
open Go Go.RowKit Go.Maps

def upB (h : List (Int × Int)) (q : Int × Int) : Bool := h.any fun p => p.1 == q.1
def freeB (h : List (Int × Int)) (q : Int × Int) : Bool := h.all fun p => p.1 == q.1 || besM q.2 p.2
structure OkQ (h l : List (Int × Int)) : Prop where
  hm : ∀ p ∈ h, ModeOk p.2
  lm : ∀ q ∈ l, ModeOk q.2
  first : ∀ q, l[0]? = some q → freeB h q = false
  ups : ∀ (i j : Nat) q r, l[i]? = some q → l[j]? = some r → j < i → upB h q = true → upB h r = true
theorem upB_next {h : List (Int × Int)} {k : Nat} {p : Int × Int} (q : Int × Int) (hp : h[k]? = some p) : upB (h.take (k + 1)) q = (upB (h.take k) q || p.1 == q.1) := by
  unfold upB
  rw [List.take_add_one, hp, List.any_append]
  simp
theorem freeB_next {h : List (Int × Int)} {k : Nat} {p : Int × Int} (q : Int × Int) (hp : h[k]? = some p) : freeB (h.take (k + 1)) q = (freeB (h.take k) q && (p.1 == q.1 || besM q.2 p.2)) := by
  unfold freeB
  rw [List.take_add_one, hp, List.all_append]
  simp
set_option maxRecDepth 100000 in
set_option maxHeartbeats 8000000 in
theorem lblk_any {v u : Value} {h l : List (Int × Int)} {w : World} (hv : SlAt w 2 v h.length (h.flatMap hold2)) (hu : SlAt w 2 u l.length (l.flatMap hold2)) (ho : OkQ h l) (hl : h.length ≤ 1000000) (hl2 : l.length ≤ 1000000) :
    Calls Tryz.prog 61 #[v, u] w fun e w' => e = .returned (.bool true) ∧ Fr w w' Nil := by
  obtain ⟨a, cap, rfl⟩ := hv.shape
  obtain ⟨a2, cap2, rfl⟩ := hu.shape
  have HV := Lib.hid hv
  have HU := Lib.hid hu
  have HO := Lib.hid ho
  clear hv hu ho
  go_enter Tryz.func61, Tryz.ntmps61
  go_wp2_with fail
  go_loopw [5, 6] (fun vr vi wr => ∃ (i : Nat) (rst : Bool), vi = .int .i64 (i : Int) ∧ vr = .bool rst ∧ i ≤ l.length ∧ Hid (rst = true → ∃ (j : Nat) (r : Int × Int), j < i ∧ l[j]? = some r ∧ upB h r = false) ∧ Hid (Fr w wr Nil)) (fun _ vi _ => l.length - (intOf vi).toNat)
  case atStart => exact ⟨0, false, by go_num, rfl, by omega, fun h => (by cases h), Fr.refl _ _⟩
  case round =>
    obtain ⟨i, rst, rfl, rfl, hi, HR, HF⟩ := hrel
    obtain ⟨wo, rfl⟩ : ∃ wo : World, wo = wr := ⟨_, rfl⟩
    by_cases hlt : i < l.length
    · have hil : (i : Int) < (l.length : Int) := by omega
      obtain ⟨b, off, cap', hvu, hc⟩ := flat_form (n := 2) (f := hold2) (fun _ => rfl) (by decide) (HU.out.fr0 HF.out) (by omega)
      simp only [Value.slice.injEq, true_and] at hvu
      obtain ⟨rfl, rfl⟩ := hvu
      obtain ⟨q, hq⟩ : ∃ q, l[i]? = some q := ⟨_, List.getElem?_eq_getElem hlt⟩
      have HQM := Lib.hid (HO.out.lm q (List.mem_iff_getElem?.2 ⟨i, hq⟩))
      have q0 := hc i q hq 0 _ rfl
      have q1 := hc i q hq 1 _ rfl
      have HQ := Lib.hid hq
      obtain ⟨q1', q2'⟩ := q
      simp only [Nat.add_zero] at q0 q1
      have HQ0 := Lib.hid q0
      have HQ1 := Lib.hid q1
      clear hc hq q0 q1
      go_wp2_with fail
      go_loopw [7, 8, 9] (fun vu vf vk wx => ∃ k : Nat, vk = .int .i64 (k : Int) ∧ k ≤ h.length ∧ vu = .bool (upB (h.take k) (q1', q2')) ∧ vf = .bool (freeB (h.take k) (q1', q2')) ∧ Hid (Fr wo wx Nil)) (fun _ _ vk _ => h.length - (intOf vk).toNat)
      case atStart => exact ⟨0, by go_num, by omega, rfl, rfl, Fr.refl _ _⟩
      case round =>
        obtain ⟨k, rfl, hk, rfl, rfl, HG⟩ := hrel
        obtain ⟨wi, rfl⟩ : ∃ wi : World, wi = wr := ⟨_, rfl⟩
        by_cases hlk : k < h.length
        · have hkl : (k : Int) < (h.length : Int) := by omega
          obtain ⟨c, off2, cap3, hvv, hc⟩ := flat_form (n := 2) (f := hold2) (fun _ => rfl) (by decide) ((HV.out.fr0 HF.out).fr0 HG.out) (by omega)
          simp only [Value.slice.injEq, true_and] at hvv
          obtain ⟨rfl, rfl⟩ := hvv
          obtain ⟨p, hp⟩ : ∃ p, h[k]? = some p := ⟨_, List.getElem?_eq_getElem hlk⟩
          have p0 := hc k p hp 0 _ rfl
          have p1 := hc k p hp 1 _ rfl
          have HPM := Lib.hid (HO.out.hm p (List.mem_iff_getElem?.2 ⟨k, hp⟩))
          have hun := upB_next (q1', q2') hp
          have hfn := freeB_next (q1', q2') hp
          obtain ⟨p1', p2'⟩ := p
          simp only [Nat.add_zero] at p0 p1
          have q0 := HG.out.cell HQ0.out (fun h => h)
          have q1 := HG.out.cell HQ1.out (fun h => h)
          have cB := rbes_any HQM.out HPM.out
          generalize besM q2' p2' = be at *
          generalize upB (h.take k) (q1', q2') = up at *
          generalize freeB (h.take k) (q1', q2') = fr at *
          generalize heq : (p1' == q1') = eq at *
          have HUN := Lib.hid hun
          have HFN := Lib.hid hfn
          clear hc hp hun hfn
          go_upto_region 9 with fail
          go_cut [7] from 22 to 35 (fun v7 wx => v7 = .bool (up || eq) ∧ Hid (Fr wi wx Nil))
          case first =>
            cases up
            · cases eq
              all_goals
                go_wp2_with fail
                go_quiet (fail)
                rename_i nq
                have hfq := frq wi nq
                go_wp2_with fail
                go_meet
                exact ⟨rfl, hfq⟩
            · go_wp2_with fail
              go_quiet (fail)
              rename_i nq
              have hfq := frq wi nq
              go_wp2_with fail
              go_meet
              exact ⟨rfl, hfq⟩
          case rest =>
            obtain ⟨rfl, HF1⟩ := hcut
            have HGx := Lib.hid (HG.out.trans0 HF1.out)
            replace p0 := HF1.out.cell p0 (fun h => h)
            replace p1 := HF1.out.cell p1 (fun h => h)
            replace q0 := HF1.out.cell q0 (fun h => h)
            replace q1 := HF1.out.cell q1 (fun h => h)
            clear HF1
            cases fr
            · go_wp2_with fail
              go_quiet (fail)
              rename_i nq
              have HGz := Lib.hid (HGx.out.trans0 (frq wc nq))
              clear p0 p1 q0 q1 heq
              clear cB
              go_wp2_with fail
              go_roundw
              case rel => exact ⟨k + 1, by go_num, by omega, by (rw [HUN.out]; try simp), by rw [HFN.out]; rfl, HGz⟩
              case measure => simp [intOf]; omega
            · cases eq
              · have kp0 : ∀ w', KeptN wc w' → w'.cell? ⟨c, off2 + k * 2, none⟩ = some (.int .i64 p1') := KeptN.cell p0
                have kp1 : ∀ w', KeptN wc w' → w'.cell? ⟨c, off2 + k * 2 + 1, none⟩ = some (.int .u8 p2') := KeptN.cell p1
                have kq0 : ∀ w', KeptN wc w' → w'.cell? ⟨b, off + i * 2, none⟩ = some (.int .i64 q1') := KeptN.cell q0
                have kq1 : ∀ w', KeptN wc w' → w'.cell? ⟨b, off + i * 2 + 1, none⟩ = some (.int .u8 q2') := KeptN.cell q1
                have keq : ∀ w', KeptN wc w' → (p1' == q1') = false := fun _ _ => heq
                clear p0 p1 q0 q1 heq
                go_wp2_with fail
                refine wp_region_sink 27 (KeptN wc) (by kernel_rfl) ?_
                have hSa : KeptN wc wc.drew := KeptN.start wc
                refine tk 0 hSa ?_
                refine tk 1 hSa ?_
                refine tk 2 hSa ?_
                refine tk 3 hSa ?_
                refine tk 4 hSa ?_
                refine tk 5 hSa ?_
                try simp only [Act.put, sA, sB, sC]
                refine tk 6 hSa ?_ (hy := by intro _ w; have ckp0 := kp0 _ w; go_simp <;> with_reducible rfl)
                try simp only [Act.put, sA, sB, sC]
                refine tk 7 hSa ?_
                refine tk 8 hSa ?_
                refine tk 9 hSa ?_
                refine tk 10 hSa ?_
                try simp only [Act.put, sA, sB, sC]
                refine tk 11 hSa ?_ (hy := by intro _ w; have ckq0 := kq0 _ w; go_simp <;> with_reducible rfl)
                try simp only [Act.put, sA, sB, sC]
                refine tk 12 hSa ?_ (hy := by intro _ w; have ckeq := keq _ w; go_simp <;> with_reducible rfl)
                try simp only [Act.put, sA, sB, sC]
                refine tk 13 hSa ?_
                refine tk 14 hSa ?_
                refine tk 15 hSa ?_
                refine tk 16 hSa ?_
                refine tk 17 hSa ?_
                try simp only [Act.put, sA, sB, sC]
                refine tk 18 hSa ?_ (hy := by intro _ w; have ckq1 := kq1 _ w; go_simp <;> with_reducible rfl)
                try simp only [Act.put, sA, sB, sC]
                refine tk 19 hSa ?_
                refine tk 20 hSa ?_
                refine tk 21 hSa ?_
                refine tk 22 hSa ?_
                try simp only [Act.put, sA, sB, sC]
                refine tk 23 hSa ?_ (hy := by intro _ w; have ckp1 := kp1 _ w; go_simp <;> with_reducible rfl)
                try simp only [Act.put, sA, sB, sC]
                refine on1 24 fun K hK => ?_
                go_simp
                refine (cB _).mono ?_
                rintro e wj ⟨rfl, hwj⟩
                have hSb : KeptN wc wj := hSa.next hwj
                refine hK.out _ _ hSb ?_
                clear hK K
                try simp only [Act.put, sA, sB, sC]
                refine tk 25 hSb ?_
                refine tk 26 hSb ?_
                try simp only [Act.put, sA, sB, sC]
                refine wpAnyS_last (i := 27) rfl (by kernel_rfl) (by decide) (by kernel_rfl) (by rfl) fun K hK => ?_
                go_simp
                refine hK.out _ _ ?_
                clear hK K
                have HGz := Lib.hid (HGx.out.trans0 hSb.fr)
                clear hSa hSb kp0 kp1 kq0 kq1 keq hwj
                clear cB
                go_wp2_with fail
                go_roundw
                case rel => exact ⟨k + 1, by go_num, by omega, by (rw [HUN.out]; try simp), by (rw [HFN.out]; simp), HGz⟩
                case measure => simp [intOf]; omega
              · go_wp2_with fail
                go_quiet (fail)
                rename_i nq
                have HGz := Lib.hid (HGx.out.trans0 (frq wc nq))
                clear p0 p1 q0 q1 heq
                clear cB
                go_wp2_with fail
                go_roundw
                case rel => exact ⟨k + 1, by go_num, by omega, by (rw [HUN.out]; try simp), by rw [HFN.out]; rfl, HGz⟩
                case measure => simp [intOf]; omega
        · obtain rfl : k = h.length := by omega
          rw [List.take_length]
          have HFy := Lib.hid (HF.out.trans0 HG.out)
          have hups : ∀ j r, l[j]? = some r → j < i → upB h (q1', q2') = true → upB h r = true := fun j r h1 h2 h3 => HO.out.ups i j _ _ HQ.out h1 h2 h3
          have hnu : upB h (q1', q2') = true → rst = false := fun h1 => by
            cases rst with
            | false => rfl
            | true =>
              obtain ⟨j, r, h2, h3, h4⟩ := HR.out rfl
              rw [hups j r h3 h2 h1] at h4
              cases h4
          have hfst : i = 0 → freeB h (q1', q2') = false := fun e => HO.out.first _ (by rw [← e]; exact HQ.out)
          obtain ⟨up, hup⟩ : ∃ x, upB h (q1', q2') = x := ⟨_, rfl⟩
          have HUP := Lib.hid hup
          rw [hup] at hnu ⊢
          have HNU := Lib.hid hnu
          generalize freeB h (q1', q2') = fr at *
          clear hup hups hnu
          by_cases hi0 : i = 0
          · have hfr := hfst hi0
            subst hi0
            subst hfr
            clear hfst
            have hr0 : rst = false := by
              cases rst with
              | false => rfl
              | true =>
                obtain ⟨j, r, h2, _, _⟩ := HR.out rfl
                omega
            subst hr0
            cases up
            · go_wp2_with fail
              go_roundw
              case rel => exact ⟨1, true, by go_num, rfl, by omega, fun _ => ⟨0, _, by omega, HQ.out, HUP.out⟩, HFy⟩
              case measure => simp [intOf]; omega
            · go_wp2_with fail
              go_roundw
              case rel => exact ⟨1, false, by go_num, rfl, by omega, fun h => (by cases h), HFy⟩
              case measure => simp [intOf]; omega
          · have hi1 : ((i : Int) == 0) = false := by rw [beq_eq_false_iff_ne]; omega
            clear hfst
            cases up
            · cases rst
              · go_wp2_with fail
                go_roundw
                case rel => exact ⟨i + 1, true, by go_num, rfl, by omega, fun _ => ⟨i, _, by omega, HQ.out, HUP.out⟩, HFy⟩
                case measure => simp [intOf]; omega
              · go_wp2_with fail
                go_roundw
                case rel => exact ⟨i + 1, true, by go_num, rfl, by omega, fun _ => ⟨i, _, by omega, HQ.out, HUP.out⟩, HFy⟩
                case measure => simp [intOf]; omega
            · have := HNU.out rfl
              subst this
              go_wp2_with fail
              go_roundw
              case rel => exact ⟨i + 1, false, by go_num, rfl, by omega, fun h => (by cases h), HFy⟩
              case measure => simp [intOf]; omega
    · obtain rfl : i = l.length := by omega
      go_wp2_with fail
      go_ret
      exact ⟨rfl, HF.out⟩
end Go.Proofs.YtokeciekncincabGreat
