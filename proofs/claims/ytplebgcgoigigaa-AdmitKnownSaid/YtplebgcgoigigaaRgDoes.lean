/-
  The law's helpers over both gates (interlocklaw17): walks of one, does.
  No condition but sizes.
-/
import Derived.Test.YtplebgcgoigigaaRgLeave
namespace Go.Proofs.Ytplebgcgoigigaa
open Go Go.RowKit Go.Maps Go.Shelf

abbrev call6 (tk tw : Int) (n : Nd) : Value := .agg #[.int .u8 tk, .int .i64 tw, .int .i64 n.proc, .bool n.single, .int .i64 n.l, .int .i64 n.u]

set_option maxRecDepth 100000 in
set_option maxHeartbeats 400000 in
theorem lone_any (tk tw : Int) (n : Nd) (w : World) : Calls Try.prog 26 #[call6 tk tw n] w fun e w' => e = .returned (one5 tw n) ∧ Fr w w' Nil := by
  have hbk := (bk_at w 35 #[.int .u8 tk, .int .i64 tw, .int .i64 n.proc, .bool n.single, .int .i64 n.l, .int .i64 n.u] _ rfl).alloc (.cells #[.int .i64 tw, .int .i64 n.proc, .bool n.single, .int .i64 n.l, .int .i64 n.u] 67)
  have hbz := (bk_at w 35 #[.int .u8 tk, .int .i64 tw, .int .i64 n.proc, .bool n.single, .int .i64 n.l, .int .i64 n.u] _ rfl).alloc (.cells #[.int .i64 0, .int .i64 0, .bool false, .int .i64 0, .int .i64 0] 67)
  have hf := (((Fr.refl w Nil).alloc (.cells #[.int .u8 tk, .int .i64 tw, .int .i64 n.proc, .bool n.single, .int .i64 n.l, .int .i64 n.u] 35)).alloc (.cells #[.int .i64 tw, .int .i64 n.proc, .bool n.single, .int .i64 n.l, .int .i64 n.u] 67))
  have p1 := hbz.cell 1
  have p2 := hbz.cell 2
  have p3 := hbz.cell 3
  have p4 := hbz.cell 4
  have p5 := hbz.cell 5
  simp only [List.getElem?_cons_zero, List.getElem?_cons_succ] at p1 p2 p3 p4 p5
  clear hbk hbz
  go_enter Try.func26, Try.ntmps26
  go_wp2_with fail
  refine bodyPost_ret (by simp [results, Try.results26, go_sem]; try rfl) rfl ?_
  exact ⟨rfl, hf⟩

set_option maxRecDepth 100000 in
set_option maxHeartbeats 4000000 in
theorem does_any {B gb bm rb : Nat} {c : CapD} {M : List MR} (tk tw : Int) (n : Nd) (w : World) (hg : GateAt w gb bm c M) (hr : RGat B w rb c M) (hi : Inv c M) (hB : gb < B ∧ bm < B) (htw : (Lit.int .i64 tw).wf = true) (hl : M.length ≤ 1000) :
    Calls Try.prog 15 #[.pointer (some ⟨gb, 0, none⟩), .pointer (some ⟨rb, 0, none⟩), call6 tk tw n] w fun e w' =>
      e = .returned (.bool true) ∧ ∃ M', GateAt w' gb bm c M' ∧ RGat B w' rb c M' ∧ Inv c M' ∧ M'.length ≤ M.length + 1 ∧ Fr w w' (fun k => k = bm ∨ B ≤ k) := by
  obtain ⟨lv, hr⟩ := hr
  have HW := Lib.hid (CapD.wf_of hi.caps)
  have HI := Lib.hid hi
  have hlvt : ∀ k, lv.ownBlock = some k → k < w.heap.size := fun k hk => (World.ownsRow.lt hr.own k hk).2
  have HT : Hid (¬ (w.heap.size = bm ∨ w.heap.size = rb ∨ lv.ownBlock = some w.heap.size)) := by
    have : ¬ (w.heap.size = bm ∨ w.heap.size = rb ∨ lv.ownBlock = some w.heap.size) := by
      have h1 := hg.2.lt
      have h2 := hr.rb_lt
      rintro (e | e | e)
      · omega
      · omega
      · have := hlvt _ e; omega
    exact this
  have HTB : Hid (∀ k, (k = bm ∨ k = rb ∨ lv.ownBlock = some k) → k = bm ∨ B ≤ k) := by
    have : ∀ k, (k = bm ∨ k = rb ∨ lv.ownBlock = some k) → k = bm ∨ B ≤ k := by
      rintro k (e | e | e)
      · exact .inl e
      · have := hr.rbB; omega
      · exact .inr (hr.fresh k e).1
    exact this
  have HGR : Hid (¬ (gb = rb ∨ lv.ownBlock = some gb) ∧ ¬ (bm = rb ∨ lv.ownBlock = some bm) ∧ ∀ k, B ≤ k → ¬ k = bm) := by
    have : ¬ (gb = rb ∨ lv.ownBlock = some gb) ∧ ¬ (bm = rb ∨ lv.ownBlock = some bm) ∧ ∀ k, B ≤ k → ¬ k = bm := by
      have h1 := hr.rbB
      refine ⟨?_, ?_, ?_⟩
      · rintro (e | e)
        · omega
        · have := (hr.fresh _ e).1; omega
      · rintro (e | e)
        · omega
        · have := (hr.fresh _ e).1; omega
      · intro k hk; omega
    exact this
  have HB := Lib.hid (bk_at w 35 #[.int .u8 tk, .int .i64 tw, .int .i64 n.proc, .bool n.single, .int .i64 n.l, .int .i64 n.u] _ rfl)
  have hfa := (Fr.refl w Nil).alloc (.cells #[.int .u8 tk, .int .i64 tw, .int .i64 n.proc, .bool n.single, .int .i64 n.l, .int .i64 n.u] 35)
  have HG := Lib.hid (hg.fr0 hfa)
  have HR := Lib.hid (hr.fr0 hfa)
  have HF := Lib.hid hfa
  obtain ⟨kd, hkd, hkd2⟩ : ∃ kd : Int, tk.tmod 4 = kd ∧ (kd = 2 ∨ kd = 3 ∨ (kd ≠ 2 ∧ kd ≠ 3)) := ⟨_, rfl, by omega⟩
  have p0 := HB.out.cell 0
  have p1 := HB.out.cell 1
  have p2 := HB.out.cell 2
  have p3 := HB.out.cell 3
  have p4 := HB.out.cell 4
  have p5 := HB.out.cell 5
  simp only [List.getElem?_cons_zero, List.getElem?_cons_succ] at p0 p1 p2 p3 p4 p5
  clear hg hr hi hfa hlvt
  go_enter Try.func15, Try.ntmps15
  rcases hkd2 with rfl | rfl | ⟨hk2, hk3⟩
  · go_wp2_with fail
    generalize w.alloc (.cells #[.int .u8 tk, .int .i64 tw, .int .i64 n.proc, .bool n.single, .int .i64 n.l, .int .i64 n.u] 35) = w1 at *
    generalize hsz : w.heap.size = sz at *
    have k1 := KeptS.cell (T := fun k => k = bm ∨ k = rb ∨ lv.ownBlock = some k) p1 HT.out
    refine wp_region_sink 9 (KeptS (fun k => k = bm ∨ k = rb ∨ lv.ownBlock = some k) w1) (by kernel_rfl) ?_
    have hSa : KeptS (fun k => k = bm ∨ k = rb ∨ lv.ownBlock = some k) w1 w1.drew := KeptS.start _ _
    refine wpAnyS_take (i := 0) (v := ?_) rfl (by kernel_rfl) (fun _ _ _ h => h) (by rfl) hSa ?_ ?_
    rotate_left
    · intro w' hS'
      (try dsimp only at hS')
      go_simp <;> with_reducible rfl
    try simp only [Act.put, List.setIfInBounds_toArray, List.set_cons_zero, List.set_cons_succ]
    refine wpAnyS_take (i := 1) (v := ?_) rfl (by kernel_rfl) (fun _ _ _ h => h) (by rfl) hSa ?_ ?_
    rotate_left
    · intro w' hS'
      (try dsimp only at hS')
      go_simp <;> with_reducible rfl
    try simp only [Act.put, List.setIfInBounds_toArray, List.set_cons_zero, List.set_cons_succ]
    refine wpAnyS_take (i := 2) (v := ?_) rfl (by kernel_rfl) (fun _ _ _ h => h) (by rfl) hSa ?_ ?_
    rotate_left
    · intro w' hS'
      have ck1 := k1 _ hS'
      go_simp <;> with_reducible rfl
    try simp only [Act.put, List.setIfInBounds_toArray, List.set_cons_zero, List.set_cons_succ]
    refine wpAnyS_take (i := 4) (v := ?_) rfl (by kernel_rfl) (fun _ _ _ h => h) (by rfl) hSa ?_ ?_
    rotate_left
    · intro w' hS'
      (try dsimp only at hS')
      go_simp <;> with_reducible rfl
    try simp only [Act.put, List.setIfInBounds_toArray, List.set_cons_zero, List.set_cons_succ]
    refine wpAnyS_take (i := 5) (v := ?_) rfl (by kernel_rfl) (fun _ _ _ h => h) (by rfl) hSa ?_ ?_
    rotate_left
    · intro w' hS'
      (try dsimp only at hS')
      go_simp <;> with_reducible rfl
    try simp only [Act.put, List.setIfInBounds_toArray, List.set_cons_zero, List.set_cons_succ]
    refine wpAnyS_take (i := 6) (v := ?_) rfl (by kernel_rfl) (fun _ _ _ h => h) (by rfl) hSa ?_ ?_
    rotate_left
    · intro w' hS'
      have ck1 := k1 _ hS'
      go_simp <;> with_reducible rfl
    try simp only [Act.put, List.setIfInBounds_toArray, List.set_cons_zero, List.set_cons_succ]
    refine wpAnyS_one (i := 3) rfl (by kernel_rfl) (by decide) (by rfl) fun K hK => ?_
    go_simp
    refine (gleave_any gb bm c M tw _ (HG.out.fr0 ((Fr.refl w1 Nil).drew)) htw).mono ?_
    rintro e w3 ⟨rfl, hg3, hf3⟩
    have hSb : KeptS (fun k => k = bm ∨ k = rb ∨ lv.ownBlock = some k) w1 w3 := ((Fr.refl w1 _).drew).transS (hf3.mono fun k _ e => .inl e)
    have HG3 := Lib.hid hg3
    have HR3 := Lib.hid ((HR.out.fr0 ((Fr.refl w1 Nil).drew)).fr hf3 HGR.out.2.2)
    refine hK.out _ _ hSb ?_
    clear hK K hg3
    try simp only [Act.put, List.setIfInBounds_toArray, List.set_cons_zero, List.set_cons_succ]
    refine wpAnyS_one (i := 7) rfl (by kernel_rfl) (by decide) (by rfl) fun K hK => ?_
    go_simp
    refine (rleave_any tw _ HR3.out HI.out (by omega)).mono ?_
    rintro e w4 ⟨rfl, hr4, hf4⟩
    have hSc : KeptS (fun k => k = bm ∨ k = rb ∨ lv.ownBlock = some k) w1 w4 := Fr.transS hSb (hf4.mono fun k _ e => .inr e)
    have HG4 := Lib.hid (HG3.out.fr hf4 HGR.out.1 HGR.out.2.1)
    have HR4 := Lib.hid hr4
    refine hK.out _ _ hSc ?_
    clear hK K hr4
    try simp only [Act.put, List.setIfInBounds_toArray, List.set_cons_zero, List.set_cons_succ]
    refine wpAnyS_take (i := 8) (v := ?_) rfl (by kernel_rfl) (fun _ _ _ h => h) (by rfl) hSc ?_ ?_
    rotate_left
    · intro w' hS'
      (try dsimp only at hS')
      go_simp <;> with_reducible rfl
    try simp only [Act.put, List.setIfInBounds_toArray, List.set_cons_zero, List.set_cons_succ]
    refine wpAnyS_last (i := 9) rfl (by kernel_rfl) (by decide) (by kernel_rfl) (by rfl) fun K hK => ?_
    go_simp
    refine hK.out _ _ ?_
    clear hK K
    have HF4 := Lib.hid ((HF.out.of_nil (S := fun k => k = bm ∨ B ≤ k)).transS (Fr.mono hSc fun k _ => HTB.out k))
    clear hSa hSb hSc hf3 hf4 k1 p0 p1 p2 p3 p4 p5
    go_wp2_with fail
    go_ret
    exact ⟨rfl, _, HG4.out, HR4.out, HI.out.leave tw, by have := leave_len M tw; omega, HF4.out⟩
  · go_wp2_with fail
    generalize w.alloc (.cells #[.int .u8 tk, .int .i64 tw, .int .i64 n.proc, .bool n.single, .int .i64 n.l, .int .i64 n.u] 35) = w1 at *
    generalize hsz : w.heap.size = sz at *
    have k0 := KeptF.cell p0
    have k1 := KeptF.cell p1
    have k2 := KeptF.cell p2
    have k3 := KeptF.cell p3
    have k4 := KeptF.cell p4
    have k5 := KeptF.cell p5
    clear p0 p1 p2 p3 p4 p5
    generalize hmp : mayP c M n = mb
    have HMP := Lib.hid hmp
    clear hmp
    go_region_held3 (KeptF w1) (first | exact hS5 | exact KeptF.start _ | go_keep)
      (first | (go_at_call 11; have hfx : KeptF w1 _ := (by assumption); refine (gmay_any gb bm c M n _ (HG.out.fr0 hfx.fr) HW.out).mono ?_; rintro e w5 ⟨rfl, hf5⟩; rw [HMP.out]; have hS5 := hfx.next hf5) | (go_at_call 26; have hfx : KeptF w1 _ := (by assumption); refine (lone_any tk tw n _).mono ?_; rintro e w5 ⟨rfl, hf5⟩; have hS5 := hfx.next hf5) | (go_at_call 25; have hfx : KeptF w1 _ := (by assumption); refine (rmay_any tw n _ ⟨_, HR.out.fr0 hfx.fr⟩ HI.out (by omega)).mono ?_; rintro e w5 ⟨rfl, hf5⟩; rw [HMP.out]; have hS5 := hfx.next hf5))
    have HG5 := Lib.hid (HG.out.fr0 hS5.fr)
    have HR5 := Lib.hid (HR.out.fr0 hS5.fr)
    have HF5 := Lib.hid (HF.out.trans0 hS5.fr)
    clear hS5 k0 k1 k2 k3 k4 k5
    go_wp2_with fail
    go_ret
    exact ⟨by simp, M, HG5.out, ⟨_, HR5.out⟩, HI.out, by omega, HF5.out.of_nil⟩
  · go_wp2_with fail
    generalize w.alloc (.cells #[.int .u8 tk, .int .i64 tw, .int .i64 n.proc, .bool n.single, .int .i64 n.l, .int .i64 n.u] 35) = w1 at *
    generalize hsz : w.heap.size = sz at *
    have k0 := KeptS.cell (T := fun k => k = bm ∨ k = rb ∨ lv.ownBlock = some k) p0 HT.out
    have k1 := KeptS.cell (T := fun k => k = bm ∨ k = rb ∨ lv.ownBlock = some k) p1 HT.out
    have k2 := KeptS.cell (T := fun k => k = bm ∨ k = rb ∨ lv.ownBlock = some k) p2 HT.out
    have k3 := KeptS.cell (T := fun k => k = bm ∨ k = rb ∨ lv.ownBlock = some k) p3 HT.out
    have k4 := KeptS.cell (T := fun k => k = bm ∨ k = rb ∨ lv.ownBlock = some k) p4 HT.out
    have k5 := KeptS.cell (T := fun k => k = bm ∨ k = rb ∨ lv.ownBlock = some k) p5 HT.out
    refine wp_region_sink 11 (KeptS (fun k => k = bm ∨ k = rb ∨ lv.ownBlock = some k) w1) (by kernel_rfl) ?_
    have hSa : KeptS (fun k => k = bm ∨ k = rb ∨ lv.ownBlock = some k) w1 w1.drew := KeptS.start _ _
    refine wpAnyS_take (i := 0) (v := ?_) rfl (by kernel_rfl) (fun _ _ _ h => h) (by rfl) hSa ?_ ?_
    rotate_left
    · intro w' hS'
      (try dsimp only at hS')
      go_simp <;> with_reducible rfl
    try simp only [Act.put, List.setIfInBounds_toArray, List.set_cons_zero, List.set_cons_succ]
    refine wpAnyS_take (i := 1) (v := ?_) rfl (by kernel_rfl) (fun _ _ _ h => h) (by rfl) hSa ?_ ?_
    rotate_left
    · intro w' hS'
      (try dsimp only at hS')
      go_simp <;> with_reducible rfl
    try simp only [Act.put, List.setIfInBounds_toArray, List.set_cons_zero, List.set_cons_succ]
    refine wpAnyS_take (i := 2) (v := ?_) rfl (by kernel_rfl) (fun _ _ _ h => h) (by rfl) hSa ?_ ?_
    rotate_left
    · intro w' hS'
      have ck1 := k1 _ hS'
      go_simp <;> with_reducible rfl
    try simp only [Act.put, List.setIfInBounds_toArray, List.set_cons_zero, List.set_cons_succ]
    refine wpAnyS_take (i := 3) (v := ?_) rfl (by kernel_rfl) (fun _ _ _ h => h) (by rfl) hSa ?_ ?_
    rotate_left
    · intro w' hS'
      (try dsimp only at hS')
      go_simp <;> with_reducible rfl
    try simp only [Act.put, List.setIfInBounds_toArray, List.set_cons_zero, List.set_cons_succ]
    refine wpAnyS_take (i := 4) (v := ?_) rfl (by kernel_rfl) (fun _ _ _ h => h) (by rfl) hSa ?_ ?_
    rotate_left
    · intro w' hS'
      have ck2 := k2 _ hS'
      have ck3 := k3 _ hS'
      have ck4 := k4 _ hS'
      have ck5 := k5 _ hS'
      go_simp <;> with_reducible rfl
    try simp only [Act.put, List.setIfInBounds_toArray, List.set_cons_zero, List.set_cons_succ]
    refine wpAnyS_take (i := 6) (v := ?_) rfl (by kernel_rfl) (fun _ _ _ h => h) (by rfl) hSa ?_ ?_
    rotate_left
    · intro w' hS'
      (try dsimp only at hS')
      go_simp <;> with_reducible rfl
    try simp only [Act.put, List.setIfInBounds_toArray, List.set_cons_zero, List.set_cons_succ]
    refine wpAnyS_take (i := 7) (v := ?_) rfl (by kernel_rfl) (fun _ _ _ h => h) (by rfl) hSa ?_ ?_
    rotate_left
    · intro w' hS'
      have ck0 := k0 _ hS'
      have ck1 := k1 _ hS'
      have ck2 := k2 _ hS'
      have ck3 := k3 _ hS'
      have ck4 := k4 _ hS'
      have ck5 := k5 _ hS'
      go_simp <;> with_reducible rfl
    try simp only [Act.put, List.setIfInBounds_toArray, List.set_cons_zero, List.set_cons_succ]
    refine wpAnyS_one (i := 5) rfl (by kernel_rfl) (by decide) (by rfl) fun K hK => ?_
    go_simp
    refine (enter_any gb bm c M tw n _ (HG.out.fr0 ((Fr.refl w1 Nil).drew)) HW.out htw (by omega)).mono ?_
    rintro e w3 ⟨rfl, hg3, hf3⟩
    have hSb : KeptS (fun k => k = bm ∨ k = rb ∨ lv.ownBlock = some k) w1 w3 := ((Fr.refl w1 _).drew).transS (hf3.mono fun k _ e => .inl e)
    have HG3 := Lib.hid hg3
    have HR3 := Lib.hid ((HR.out.fr0 ((Fr.refl w1 Nil).drew)).fr hf3 HGR.out.2.2)
    refine hK.out _ _ hSb ?_
    clear hK K hg3
    try simp only [Act.put, List.setIfInBounds_toArray, List.set_cons_zero, List.set_cons_succ]
    refine wpAnyS_one (i := 8) rfl (by kernel_rfl) (by decide) (by rfl) fun K hK => ?_
    go_simp
    refine (lone_any tk tw n _).mono ?_
    rintro e w5 ⟨rfl, hf5⟩
    have hSd : KeptS (fun k => k = bm ∨ k = rb ∨ lv.ownBlock = some k) w1 w5 := Fr.trans0 hSb hf5
    have HG5 := Lib.hid (HG3.out.fr0 hf5)
    have HR5 := Lib.hid (HR3.out.fr0 hf5)
    refine hK.out _ _ hSd ?_
    clear hK K
    try simp only [Act.put, List.setIfInBounds_toArray, List.set_cons_zero, List.set_cons_succ]
    refine wpAnyS_one (i := 9) rfl (by kernel_rfl) (by decide) (by rfl) fun K hK => ?_
    go_simp
    refine (renter_any tw n _ HR5.out HI.out (by omega)).mono ?_
    rintro e w4 ⟨rfl, hr4, hf4⟩
    have hSc : KeptS (fun k => k = bm ∨ k = rb ∨ lv.ownBlock = some k) w1 w4 := Fr.transS hSd (hf4.mono fun k _ e => .inr e)
    have HG4 := Lib.hid (HG5.out.fr hf4 HGR.out.1 HGR.out.2.1)
    have HR4 := Lib.hid hr4
    refine hK.out _ _ hSc ?_
    clear hK K hr4
    try simp only [Act.put, List.setIfInBounds_toArray, List.set_cons_zero, List.set_cons_succ]
    refine wpAnyS_take (i := 10) (v := ?_) rfl (by kernel_rfl) (fun _ _ _ h => h) (by rfl) hSc ?_ ?_
    rotate_left
    · intro w' hS'
      (try dsimp only at hS')
      go_simp <;> with_reducible rfl
    try simp only [Act.put, List.setIfInBounds_toArray, List.set_cons_zero, List.set_cons_succ]
    refine wpAnyS_last (i := 11) rfl (by kernel_rfl) (by decide) (by kernel_rfl) (by rfl) fun K hK => ?_
    go_simp
    refine hK.out _ _ ?_
    clear hK K
    have HF4 := Lib.hid ((HF.out.of_nil (S := fun k => k = bm ∨ B ≤ k)).transS (Fr.mono hSc fun k _ => HTB.out k))
    clear hSa hSb hSc hSd hf3 hf4 hf5 k0 k1 k2 k3 k4 k5 p0 p1 p2 p3 p4 p5
    go_wp2_with fail
    go_ret
    exact ⟨rfl, _, HG4.out, HR4.out, HI.out.enter htw, enter_len c M tw n, HF4.out⟩
end Go.Proofs.Ytplebgcgoigigaa
