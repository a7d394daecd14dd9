/-
  The reference's gate (interlockref17): walk of May.
  No condition but sizes.
-/
import Derived.Test.YtplebgcgoigigaaRgBase
import Derived.Test.YtplebgcgoigigaaQTail
import Derived.Test.YtplebgcgoigigaaSink
namespace Go.Proofs.Ytplebgcgoigigaa
open Go Go.RowKit Go.Maps Go.Shelf

theorem sumP_take {p : Nd → Int} {M : List MR} (hp : ∀ r ∈ M, 0 ≤ p r.2) (i : Nat) : 0 ≤ sumP p (M.take i) ∧ sumP p (M.take i) ≤ sumP p M := by
  have h1 : sumP p M = sumP p (M.take i) + sumP p (M.drop i) := by rw [← sumP_app, List.take_append_drop]
  have h2 : 0 ≤ sumP p (M.take i) := sumP_nonneg fun r hr => hp r (List.mem_of_mem_take hr)
  have h3 : 0 ≤ sumP p (M.drop i) := sumP_nonneg fun r hr => hp r (List.mem_of_mem_drop hr)
  omega
theorem sumP_next {p : Nd → Int} {M : List MR} {i : Nat} {r : MR} (h : M[i]? = some r) : sumP p (M.take (i + 1)) = sumP p (M.take i) + p r.2 := by
  obtain ⟨hi, rfl⟩ := List.getElem?_eq_some_iff.1 h
  rw [List.take_succ_eq_append_getElem hi, sumP_app]
  simp [sumP]
theorem any_next {f : MR → Bool} {M : List MR} {i : Nat} {r : MR} (h : M[i]? = some r) : (M.take (i + 1)).any f = ((M.take i).any f || f r) := by
  obtain ⟨hi, rfl⟩ := List.getElem?_eq_some_iff.1 h
  rw [List.take_succ_eq_append_getElem hi, List.any_append]
  simp

set_option maxRecDepth 100000 in
set_option maxHeartbeats 4000000 in
theorem rmay_any {B rb : Nat} {c : CapD} {M : List MR} (x : Int) (n : Nd) (w : World) (h : RGat B w rb c M) (hi : Inv c M) (hl : M.length ≤ 1000000) :
    Calls Try.prog 25 #[.pointer (some ⟨rb, 0, none⟩), one5 x n] w fun e w' => e = .returned (.bool (mayP c M n)) ∧ Fr w w' Nil := by
  obtain ⟨lv, h⟩ := h
  obtain ⟨a, cap, hlv⟩ := h.sl.shape
  subst hlv
  have HI := Lib.hid hi
  have HB := Lib.hid (bk_at w 67 #[.int .i64 x, .int .i64 n.proc, .bool n.single, .int .i64 n.l, .int .i64 n.u] _ rfl)
  have hfa := (Fr.refl w Nil).alloc (.cells #[.int .i64 x, .int .i64 n.proc, .bool n.single, .int .i64 n.l, .int .i64 n.u] 67)
  have HG := Lib.hid (h.fr0 hfa)
  have HF := Lib.hid hfa
  clear h hfa hi
  go_enter Try.func25, Try.ntmps25
  have p0 := HB.out.cell 0
  have p1 := HB.out.cell 1
  have p2 := HB.out.cell 2
  have p3 := HB.out.cell 3
  have p4 := HB.out.cell 4
  have q0 := HG.out.root.cell 0
  have q3 := HG.out.root.cell 3
  simp only [List.getElem?_cons_zero, List.getElem?_cons_succ] at p0 p1 p2 p3 p4 q0 q3
  go_wp2_with fail
  generalize w.alloc (.cells #[.int .i64 x, .int .i64 n.proc, .bool n.single, .int .i64 n.l, .int .i64 n.u] 67) = w1 at *
  have k0 := KeptF.cell p0
  have k1 := KeptF.cell p1
  have k2 := KeptF.cell p2
  have k3 := KeptF.cell p3
  have k4 := KeptF.cell p4
  have k5 := KeptF.cell q0
  have k6 := KeptF.cell q3
  clear p0 p1 p2 p3 p4 q0 q3
  cases hm : n.may with
  | false =>
    have HR : Hid (mayP c M n = false) := by
      have : mayP c M n = false := by unfold mayP; rw [hm]; rfl
      exact this
    have HM := Lib.hid hm
    clear hm
    refine wp_region_sink 14 (KeptF w1) (by kernel_rfl) ?_
    have hSa : KeptF w1 w1.drew := KeptF.start _
    refine wpAnyS_take (i := 0) (v := ?_) rfl (by kernel_rfl) (fun _ _ _ h => h) (by rfl) hSa ?_ ?_
    rotate_left
    · intro w' hS'
      have ck0 := k0 _ hS'
      have ck1 := k1 _ hS'
      have ck2 := k2 _ hS'
      have ck3 := k3 _ hS'
      have ck4 := k4 _ hS'
      go_simp <;> with_reducible rfl
    try simp only [Act.put, List.setIfInBounds_toArray, List.set_cons_zero, List.set_cons_succ]
    refine wpAnyS_one (i := 1) rfl (by kernel_rfl) (by decide) (by rfl) fun K hK => ?_
    go_simp
    refine (right_any x n _).mono ?_
    rintro e w2 ⟨rfl, hf2⟩
    rw [HM.out]
    have hSb := hSa.next hf2
    refine hK.out _ _ hSb ?_
    clear hK K
    try simp only [Act.put, List.setIfInBounds_toArray, List.set_cons_zero, List.set_cons_succ]
    refine wpAnyS_take (i := 2) (v := ?_) rfl (by kernel_rfl) (fun _ _ _ h => h) (by rfl) hSb ?_ ?_
    rotate_left
    · intro w' hS'
      (try dsimp only at hS')
      go_simp <;> with_reducible rfl
    try simp only [Act.put, List.setIfInBounds_toArray, List.set_cons_zero, List.set_cons_succ]
    refine wpAnyS_take (i := 3) (v := ?_) rfl (by kernel_rfl) (fun _ _ _ h => h) (by rfl) hSb ?_ ?_
    rotate_left
    · intro w' hS'
      (try dsimp only at hS')
      go_simp <;> with_reducible rfl
    try simp only [Act.put, List.setIfInBounds_toArray, List.set_cons_zero, List.set_cons_succ]
    refine wpAnyS_skip (i := 4) rfl (by kernel_rfl) (fun _ _ _ h => h) (by rfl) hSb ?_
    try simp only [Act.put, List.setIfInBounds_toArray, List.set_cons_zero, List.set_cons_succ]
    refine wpAnyS_skip (i := 5) rfl (by kernel_rfl) (fun _ _ _ h => h) (by rfl) hSb ?_
    try simp only [Act.put, List.setIfInBounds_toArray, List.set_cons_zero, List.set_cons_succ]
    refine wpAnyS_skip (i := 6) rfl (by kernel_rfl) (fun _ _ _ h => h) (by rfl) hSb ?_
    try simp only [Act.put, List.setIfInBounds_toArray, List.set_cons_zero, List.set_cons_succ]
    refine wpAnyS_skip (i := 7) rfl (by kernel_rfl) (fun _ _ _ h => h) (by rfl) hSb ?_
    try simp only [Act.put, List.setIfInBounds_toArray, List.set_cons_zero, List.set_cons_succ]
    refine wpAnyS_skip (i := 8) rfl (by kernel_rfl) (fun _ _ _ h => h) (by rfl) hSb ?_
    try simp only [Act.put, List.setIfInBounds_toArray, List.set_cons_zero, List.set_cons_succ]
    refine wpAnyS_skip (i := 9) rfl (by kernel_rfl) (fun _ _ _ h => h) (by rfl) hSb ?_
    try simp only [Act.put, List.setIfInBounds_toArray, List.set_cons_zero, List.set_cons_succ]
    refine wpAnyS_skip (i := 10) rfl (by kernel_rfl) (fun _ _ _ h => h) (by rfl) hSb ?_
    try simp only [Act.put, List.setIfInBounds_toArray, List.set_cons_zero, List.set_cons_succ]
    refine wpAnyS_skip (i := 11) rfl (by kernel_rfl) (fun _ _ _ h => h) (by rfl) hSb ?_
    try simp only [Act.put, List.setIfInBounds_toArray, List.set_cons_zero, List.set_cons_succ]
    refine wpAnyS_skip (i := 12) rfl (by kernel_rfl) (fun _ _ _ h => h) (by rfl) hSb ?_
    try simp only [Act.put, List.setIfInBounds_toArray, List.set_cons_zero, List.set_cons_succ]
    refine wpAnyS_skip (i := 13) rfl (by kernel_rfl) (fun _ _ _ h => h) (by rfl) hSb ?_
    try simp only [Act.put, List.setIfInBounds_toArray, List.set_cons_zero, List.set_cons_succ]
    refine wpAnyS_last (i := 14) rfl (by kernel_rfl) (by decide) (by kernel_rfl) (by rfl) fun K hK => ?_
    go_simp
    refine hK.out _ _ ?_
    clear hK K
    have HF2 := Lib.hid (HF.out.trans0 hSb.fr)
    clear hSb hf2 hSa k0 k1 k2 k3 k4 k5 k6
    go_wp2_with fail
    go_ret
    exact ⟨by rw [HR.out]; rfl, HF2.out⟩
  | true =>
    have HM := Lib.hid hm
    clear hm
    go_region_held3 (KeptF w1) (first | exact hS5 | exact KeptF.start _ | go_keep)
      (first | (go_at_call 38; have hfx : KeptF w1 _ := (by assumption); refine (right_any x n _).mono ?_; rintro e w2 ⟨rfl, hf2⟩; rw [HM.out]; have hS5 := hfx.next hf2))
    have HF2 := Lib.hid (HF.out.trans0 hS5.fr)
    have HG2 := Lib.hid (HG.out.fr0 hS5.fr)
    have hb2 := HB.out.fr hS5.fr fun h => h
    have HB2 := Lib.hid hb2
    have q1 := HG2.out.root.cell 1
    have q2 := HG2.out.root.cell 2
    simp only [List.getElem?_cons_zero, List.getElem?_cons_succ] at q1 q2
    clear hS5 hf2 k0 k1 k2 k3 k4 k5 k6 hb2 HB HG HF
    by_cases hn : c.n ≤ (M.length : Int)
    · have HR : Hid (mayP c M n = false) := by
        have : mayP c M n = false := by
          rw [← Bool.not_eq_true, HI.out.may]
          intro h
          omega
        exact this
      clear q1 q2
      go_wp2_with fail
      go_ret
      exact ⟨by rw [HR.out]; rfl, HF2.out⟩
    · have HN := Lib.hid hn
      go_wp2_with fail
      go_quiet (fail)
      go_wp2_with fail
      clear q1 q2
      have HLL := Lib.hid (fun i => sumP_take (p := Nd.l) (M := M) (fun r hr => (Nd.may_iff.1 (HI.out.each r hr).1).2.1.1) i)
      have HUU := Lib.hid (fun i => sumP_take (p := Nd.u) (M := M) (fun r hr => (Nd.may_iff.1 (HI.out.each r hr).1).2.2.1) i)
      have hcm := CapD.may_iff.1 HI.out.caps
      have hil := HI.out.l
      have hiu := HI.out.u
      go_loopw [5, 6, 7] (fun va vb vi wr => ∃ (i : Nat) (f g : Int), i ≤ M.length ∧ va = .int .i64 f ∧ vb = .int .i64 g ∧ vi = .int .i64 i ∧ f = c.l - sumP Nd.l (M.take i) ∧ g = c.u - sumP Nd.u (M.take i) ∧ (M.take i).any (clash n) = false ∧ Fr w2 wr Nil) (fun _ _ vi _ => M.length - (intOf vi).toNat)
      case atStart => exact ⟨0, c.l, c.u, by omega, rfl, rfl, rfl, by simp [sumP], by simp [sumP], rfl, (Fr.refl _ _).drewN _⟩
      case round =>
        obtain ⟨i, f, g, hi, rfl, rfl, rfl, hff, hgg, hcl, hf⟩ := hrel
        have HFF := Lib.hid hff
        have HGG := Lib.hid hgg
        have HCL := Lib.hid hcl
        have Hf := Lib.hid hf
        obtain ⟨wo, rfl⟩ : ∃ wo : World, wo = wr := ⟨_, rfl⟩
        have HG3 := Lib.hid (HG2.out.fr0 hf)
        have hb3 := HB2.out.fr hf fun h => h
        have q3 := HG3.out.root.cell 3
        have p1 := hb3.cell 1
        have p2 := hb3.cell 2
        have p3 := hb3.cell 3
        have p4 := hb3.cell 4
        simp only [List.getElem?_cons_zero, List.getElem?_cons_succ] at q3 p1 p2 p3 p4
        clear hf hb3 hcl
        by_cases hlt : i < M.length
        · have hr := List.getElem?_eq_getElem hlt
          generalize M[i] = r at hr
          obtain ⟨b, off, cap2, hv, c0, c1, c2, c3, c4⟩ := HG3.out.cells hr
          simp only [Value.slice.injEq, true_and] at hv
          obtain ⟨rfl, rfl⟩ := hv
          have hlt2 : (i : Int) < (M.length : Int) := by omega
          have hl1 := sumP_next (p := Nd.l) hr
          have hu1 := sumP_next (p := Nd.u) hr
          have hl2 := (HLL.out (i + 1)).2
          have hl3 := (HLL.out i).1
          have hu2 := (HUU.out (i + 1)).2
          have hu3 := (HUU.out i).1
          have hmr := Nd.may_iff.1 (HI.out.each r (List.mem_of_getElem? hr)).1
          have hwa : wrap64 (f - r.2.l) = f - r.2.l := by unfold wrap64; omega
          have hwb : wrap64 (g - r.2.u) = g - r.2.u := by unfold wrap64; omega
          have HL1 : Hid (f - r.2.l = c.l - sumP Nd.l (M.take (i + 1))) := by
            have : f - r.2.l = c.l - sumP Nd.l (M.take (i + 1)) := by omega
            exact this
          have HU1 : Hid (g - r.2.u = c.u - sumP Nd.u (M.take (i + 1))) := by
            have : g - r.2.u = c.u - sumP Nd.u (M.take (i + 1)) := by omega
            exact this
          have HA1 := Lib.hid (any_next (f := clash n) hr)
          have HRM := Lib.hid (List.mem_of_getElem? hr)
          clear hr hl1 hu1 hl2 hl3 hu2 hu3 hmr hff hgg c0
          by_cases hpe : r.2.proc = n.proc
          · have f1 : (r.2.proc == n.proc) = true := by rw [beq_iff_eq]; exact hpe
            cases hns : n.single with
            | true =>
              have HR : Hid (mayP c M n = false) := by
                have : mayP c M n = false := by
                  rw [← Bool.not_eq_true, HI.out.may]
                  intro h
                  have := h.2.1 r HRM.out
                  rw [← Bool.not_eq_true] at this
                  exact this (clash_iff.2 ⟨hpe, .inr hns⟩)
                exact this
              rw [hns] at p2
              clear hpe hns
              go_wp2_with fail
              go_quiet (fail)
              go_wp2_with fail
              go_ret
              exact ⟨by rw [HR.out]; rfl, (HF2.out.trans0 Hf.out).drewN _⟩
            | false =>
              cases hrs : r.2.single with
              | true =>
                have HR : Hid (mayP c M n = false) := by
                  have : mayP c M n = false := by
                    rw [← Bool.not_eq_true, HI.out.may]
                    intro h
                    have := h.2.1 r HRM.out
                    rw [← Bool.not_eq_true] at this
                    exact this (clash_iff.2 ⟨hpe, .inl hrs⟩)
                  exact this
                rw [hns] at p2
                rw [hrs] at c2
                clear hpe hns hrs
                go_wp2_with fail
                go_quiet (fail)
                go_wp2_with fail
                go_ret
                exact ⟨by rw [HR.out]; rfl, (HF2.out.trans0 Hf.out).drewN _⟩
              | false =>
                have HA2 : Hid ((M.take (i + 1)).any (clash n) = false) := by
                  have : (M.take (i + 1)).any (clash n) = false := by
                    rw [HA1.out, HCL.out]
                    unfold clash
                    rw [hrs, hns]
                    simp
                  exact this
                rw [hns] at p2
                rw [hrs] at c2
                clear hpe hns hrs
                go_wp2_with fail
                go_quiet (fail)
                go_wp2_with fail
                go_roundw
                case rel => exact ⟨i + 1, f - r.2.l, g - r.2.u, by omega, by first | rfl | go_num, by first | rfl | go_num, by go_num, HL1.out, HU1.out, HA2.out, Hf.out.drewN _⟩
                case measure => simp [intOf]; omega
          · have f1 : (r.2.proc == n.proc) = false := by rw [beq_eq_false_iff_ne]; exact hpe
            have HA2 : Hid ((M.take (i + 1)).any (clash n) = false) := by
              have : (M.take (i + 1)).any (clash n) = false := by
                rw [HA1.out, HCL.out]
                unfold clash
                rw [f1]
                rfl
              exact this
            clear hpe
            go_wp2_with fail
            go_quiet (fail)
            go_wp2_with fail
            go_roundw
            case rel => exact ⟨i + 1, f - r.2.l, g - r.2.u, by omega, by first | rfl | go_num, by first | rfl | go_num, by go_num, HL1.out, HU1.out, HA2.out, Hf.out.drewN _⟩
            case measure => simp [intOf]; omega
        · obtain rfl : i = M.length := by omega
          have HR : Hid (mayP c M n = (decide (n.l ≤ f) && decide (n.u ≤ g))) := by
            have : mayP c M n = (decide (n.l ≤ f) && decide (n.u ≤ g)) := by
              have h1 := HCL.out
              rw [List.take_length] at h1 hff hgg
              unfold mayP roomFor
              rw [HI.out.room, HM.out, h1, hff, hgg, decide_eq_true (show (1 : Int) ≤ c.n - M.length by omega)]
              rfl
            exact this
          clear hff hgg p1 p2
          cases d1 : decide (n.l ≤ f) with
          | true =>
            rw [d1] at HR
            cases d2 : decide (n.u ≤ g) with
            | true =>
              rw [d2] at HR
              go_wp2_with fail
              go_ret
              exact ⟨by rw [HR.out]; rfl, HF2.out.trans0 Hf.out⟩
            | false =>
              rw [d2] at HR
              go_wp2_with fail
              go_ret
              exact ⟨by rw [HR.out]; rfl, HF2.out.trans0 Hf.out⟩
          | false =>
            rw [d1] at HR
            go_wp2_with fail
            go_ret
            exact ⟨by rw [HR.out]; rfl, HF2.out.trans0 Hf.out⟩
end Go.Proofs.Ytplebgcgoigigaa
