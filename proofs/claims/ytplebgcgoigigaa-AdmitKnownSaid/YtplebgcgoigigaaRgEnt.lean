/-
  The reference's gate (interlockref17): walks of Enter, Leave.
  No condition but sizes.
-/
import Derived.Test.YtplebgcgoigigaaRgMay
namespace Go.Proofs.Ytplebgcgoigigaa
open Go Go.RowKit Go.Maps Go.Shelf

theorem slR : SlT Try.prog 61 67 5 40 :=
  SlT.mk (z := .agg #[.int .i64 0, .int .i64 0, .bool false, .int .i64 0, .int .i64 0]) Try.underlying61 (by kernel_rfl) (by rfl) (by decide) (by decide)
theorem sl_one5 (w : World) (e : TypeId) (r : MR) : SlAt (w.alloc (.cells (vals5 r).toArray e)) 5 (.slice (some ⟨w.heap.size, 0, none⟩) 1 1) 1 (flatM [r]) :=
  ⟨rfl, .inr ⟨_, 1, rfl, fun j u hu => by
    rw [Addr.add_lit, Nat.zero_add, (bk_at w e (vals5 r).toArray _ rfl).cell j]
    exact hu⟩⟩
theorem flatM_app (a b : List MR) : flatM (a ++ b) = flatM a ++ flatM b := by simp [flatM]
section
variable {B : Nat} {w w' w2 : World} {rb : Nat} {c : CapD} {M M' : List MR} {lv v' : Value} {S : Nat → Prop}
theorem RG.rb_lt (h : RG B w rb c M lv) : rb < w.heap.size := h.root.lt
/-- The list written anew into the gate. -/
theorem RG.store (h : RG B w rb c M lv) (hf : Fr w w2 (fun k => lv.ownBlock = some k)) (ho : w2.ownsRow 0 67 5 v' M'.length (flatM M'))
    (hb : ∀ k, v'.ownBlock = some k → lv.ownBlock = some k ∨ w.heap.size ≤ k) : RGat B (w2.setCell ⟨rb, 3, none⟩ v') rb c M' ∧ Fr w (w2.setCell ⟨rb, 3, none⟩ v') (fun k => k = rb ∨ lv.ownBlock = some k) := by
  have hst := Fr.store w2 rb 3 v'
  have hlt := h.rb_lt
  have hrb := h.rbB
  have hne : ∀ k, v'.ownBlock = some k → B ≤ k ∧ k ≠ rb := fun k hk => by
    rcases hb k hk with h1 | h1
    · exact h.fresh k h1
    · omega
  refine ⟨⟨v', ?_, ?_, hne, hrb⟩, ?_⟩
  · exact (h.root.fr hf fun e => (h.fresh _ e).2 rfl).set 3 v'
  · exact hst.own ho fun k hk e => (hne k hk).2 e
  · exact (hf.mono fun k _ e => .inr e).transS (hst.mono fun k _ e => .inl e)
end

def KeptS (T : Nat → Prop) (w0 w : World) : Prop := Fr w0 w T
theorem KeptS.start (T : Nat → Prop) (w : World) : KeptS T w w.drew := (Fr.refl w T).drew
theorem KeptS.cell {T : Nat → Prop} {w0 : World} {a : Addr} {v : Value} (h : w0.cell? a = some v) (ha : ¬ T a.block) : ∀ w, KeptS T w0 w → w.cell? a = some v := fun _ hf => Fr.cell hf h ha

set_option maxRecDepth 100000 in
set_option maxHeartbeats 4000000 in
theorem renter_any {B rb : Nat} {c : CapD} {M : List MR} {lv : Value} (x : Int) (n : Nd) (w : World) (h : RG B w rb c M lv) (hi : Inv c M) (hl : M.length ≤ 100000) :
    Calls Try.prog 27 #[.pointer (some ⟨rb, 0, none⟩), one5 x n] w fun e w' => e = .returned (.int .i64 (enterC c M x n)) ∧ RGat B w' rb c (enterM c M x n) ∧ Fr w w' (fun k => k = rb ∨ lv.ownBlock = some k) := by
  obtain ⟨a, cap, hlv⟩ := h.sl.shape
  subst hlv
  have hnb : ¬ ((Value.slice a M.length cap).ownBlock = some w.heap.size) := fun e => absurd (World.ownsRow.lt h.own _ e).2 (by omega)
  have hnr : ¬ ((Value.slice a M.length cap).ownBlock = some rb) := fun e => (h.fresh _ e).2 rfl
  have HNB := Lib.hid hnb
  have HNR := Lib.hid hnr
  clear hnb hnr
  have HI := Lib.hid hi
  have HB := Lib.hid (bk_at w 67 #[.int .i64 x, .int .i64 n.proc, .bool n.single, .int .i64 n.l, .int .i64 n.u] _ rfl)
  have hfa := (Fr.refl w Nil).alloc (.cells #[.int .i64 x, .int .i64 n.proc, .bool n.single, .int .i64 n.l, .int .i64 n.u] 67)
  have HG := Lib.hid (h.fr0 hfa)
  have HF := Lib.hid hfa
  clear h hfa hi
  go_enter Try.func27, Try.ntmps27
  have p0 := HB.out.cell 0
  have p1 := HB.out.cell 1
  have p2 := HB.out.cell 2
  have p3 := HB.out.cell 3
  have p4 := HB.out.cell 4
  simp only [List.getElem?_cons_zero, List.getElem?_cons_succ] at p0 p1 p2 p3 p4
  go_wp2_with fail
  refine (right_any x n _).mono ?_
  rintro e w2 ⟨rfl, hf2⟩
  have HF2 := Lib.hid (HF.out.trans0 hf2)
  have HG2 := Lib.hid (HG.out.fr0 hf2)
  have HB2 := Lib.hid (HB.out.fr hf2 fun h => h)
  clear hf2 HF HG HB p0 p1 p2 p3 p4
  have p0 := HB2.out.cell 0
  have p1 := HB2.out.cell 1
  have p2 := HB2.out.cell 2
  have p3 := HB2.out.cell 3
  have p4 := HB2.out.cell 4
  simp only [List.getElem?_cons_zero, List.getElem?_cons_succ] at p0 p1 p2 p3 p4
  cases hm : n.may with
  | false =>
    have HR : Hid (enterC c M x n = 2 ∧ enterM c M x n = M) := by
      have : enterC c M x n = 2 ∧ enterM c M x n = M := by unfold enterC enterM; rw [hm]; simp
      exact this
    clear hm
    go_wp2_with fail
    go_ret
    exact ⟨by rw [HR.out.1]; rfl, by rw [HR.out.2]; exact ⟨_, HG2.out⟩, HF2.out.of_nil⟩
  | true =>
    have HM := Lib.hid hm
    clear hm
    go_wp2_with fail
    refine (rgat_any x w2 ⟨_, HG2.out⟩ (by omega)).mono ?_
    rintro e w3 ⟨he, rfl⟩
    rcases mat_spec M x with ⟨h1, h2⟩ | ⟨j, r, h1, hj, hrx, h2⟩
    · rw [h1] at he
      subst he
      have HK := Lib.hid h2
      clear h1 h2
      go_wp2_with fail
      refine (rmay_any x n w2 ⟨_, HG2.out⟩ HI.out (by omega)).mono ?_
      rintro e w4 ⟨rfl, hf4⟩
      have HF4 := Lib.hid (HF2.out.trans0 hf4)
      have HG4 := Lib.hid (HG2.out.fr0 hf4)
      have HB4 := Lib.hid (HB2.out.fr hf4 fun h => h)
      clear hf4 HF2 HG2 HB2 p0 p1 p2 p3 p4
      cases hmp : mayP c M n with
      | false =>
        have HR : Hid (enterC c M x n = 170 ∧ enterM c M x n = M) := by
          have : enterC c M x n = 170 ∧ enterM c M x n = M := by unfold enterC enterM; rw [hmp, HM.out, HK.out]; simp
          exact this
        clear hmp
        go_wp2_with fail
        go_ret
        exact ⟨by rw [HR.out.1]; rfl, by rw [HR.out.2]; exact ⟨_, HG4.out⟩, HF4.out.of_nil⟩
      | true =>
        have HR : Hid (enterC c M x n = 0 ∧ enterM c M x n = M ++ [(x, n)]) := by
          have : enterC c M x n = 0 ∧ enterM c M x n = M ++ [(x, n)] := by unfold enterC enterM; rw [hmp, HM.out, HK.out]; simp
          exact this
        clear hmp
        have q3 := HG4.out.root.cell 3
        have p0 := HB4.out.cell 0
        have p1 := HB4.out.cell 1
        have p2 := HB4.out.cell 2
        have p3 := HB4.out.cell 3
        have p4 := HB4.out.cell 4
        simp only [List.getElem?_cons_zero, List.getElem?_cons_succ] at q3 p0 p1 p2 p3 p4
        have k0 := KeptS.cell (T := fun k => (Value.slice a M.length cap).ownBlock = some k) p0 HNB.out
        have k1 := KeptS.cell (T := fun k => (Value.slice a M.length cap).ownBlock = some k) p1 HNB.out
        have k2 := KeptS.cell (T := fun k => (Value.slice a M.length cap).ownBlock = some k) p2 HNB.out
        have k3 := KeptS.cell (T := fun k => (Value.slice a M.length cap).ownBlock = some k) p3 HNB.out
        have k4 := KeptS.cell (T := fun k => (Value.slice a M.length cap).ownBlock = some k) p4 HNB.out
        have k5 := KeptS.cell (T := fun k => (Value.slice a M.length cap).ownBlock = some k) q3 HNR.out
        go_wp2_with fail
        clear q3 p0 p1 p2 p3 p4
        refine wp_region_sink 10 (KeptS (fun k => (Value.slice a M.length cap).ownBlock = some k) w4) (by kernel_rfl) ?_
        have hSa : KeptS (fun k => (Value.slice a M.length cap).ownBlock = some k) w4 w4.drew := KeptS.start _ _
        refine wpAnyS_take (i := 0) (v := ?_) rfl (by kernel_rfl) (fun _ _ _ h => h) (by rfl) hSa ?_ ?_
        rotate_left
        · intro w' hS'
          (try dsimp only at hS')
          go_simp <;> with_reducible rfl
        try simp only [Act.put, List.setIfInBounds_toArray, List.set_cons_zero, List.set_cons_succ]
        refine wpAnyS_take (i := 1) (v := ?_) rfl (by kernel_rfl) (fun _ _ _ h => h) (by rfl) hSa ?_ ?_
        rotate_left
        · intro w' hS'
          (try dsimp only at hS')
          go_simp <;> with_reducible rfl
        try simp only [Act.put, List.setIfInBounds_toArray, List.set_cons_zero, List.set_cons_succ]
        refine wpAnyS_take (i := 2) (v := ?_) rfl (by kernel_rfl) (fun _ _ _ h => h) (by rfl) hSa ?_ ?_
        rotate_left
        · intro w' hS'
          (try dsimp only at hS')
          go_simp <;> with_reducible rfl
        try simp only [Act.put, List.setIfInBounds_toArray, List.set_cons_zero, List.set_cons_succ]
        refine wpAnyS_take (i := 3) (v := ?_) rfl (by kernel_rfl) (fun _ _ _ h => h) (by rfl) hSa ?_ ?_
        rotate_left
        · intro w' hS'
          (try dsimp only at hS')
          go_simp <;> with_reducible rfl
        try simp only [Act.put, List.setIfInBounds_toArray, List.set_cons_zero, List.set_cons_succ]
        refine wpAnyS_take (i := 4) (v := ?_) rfl (by kernel_rfl) (fun _ _ _ h => h) (by rfl) hSa ?_ ?_
        rotate_left
        · intro w' hS'
          have ck5 := k5 _ hS'
          go_simp <;> with_reducible rfl
        try simp only [Act.put, List.setIfInBounds_toArray, List.set_cons_zero, List.set_cons_succ]
        refine wpAnyS_take (i := 5) (v := ?_) rfl (by kernel_rfl) (fun _ _ _ h => h) (by rfl) hSa ?_ ?_
        rotate_left
        · intro w' hS'
          have ck0 := k0 _ hS'
          have ck1 := k1 _ hS'
          have ck2 := k2 _ hS'
          have ck3 := k3 _ hS'
          have ck4 := k4 _ hS'
          go_simp <;> with_reducible rfl
        try simp only [Act.put, List.setIfInBounds_toArray, List.set_cons_zero, List.set_cons_succ]
        refine wpAnyS_one (i := 6) rfl (by kernel_rfl) (by decide) (by rfl) fun K hK => ?_
        go_simp
        have hSb : KeptS (fun k => (Value.slice a M.length cap).ownBlock = some k) w4 (w4.alloc (.cells #[.int .i64 x, .int .i64 n.proc, .bool n.single, .int .i64 n.l, .int .i64 n.u] 67)).drew := ((Fr.refl w4 _).alloc _).drew
        have hfb : Fr w4 (w4.alloc (.cells #[.int .i64 x, .int .i64 n.proc, .bool n.single, .int .i64 n.l, .int .i64 n.u] 67)).drew Nil := ((Fr.refl w4 Nil).alloc _).drew
        have hown := hfb.own HG4.out.own (fun _ _ h => h)
        have hsl := (sl_one5 w4 67 (x, n)).fr0 ((Fr.refl _ Nil).drew)
        refine hK.out _ _ hSb ?_
        clear hK K
        try simp only [Act.put, List.setIfInBounds_toArray, List.set_cons_zero, List.set_cons_succ]
        refine wpAnyS_one (i := 7) rfl (by kernel_rfl) (by decide) (by rfl) fun K hK => ?_
        refine wp_app _ _ _ _ (by rfl) slR (.slice a M.length cap) (by rfl) hown (.slice (some ⟨w4.heap.size, 0, none⟩) 1 1) (by rfl) hsl (flatM_one [(x, n)]) (by omega) ?_
        intro a6 c6 w6 ho6 hg6 hat6
        have hS6 : KeptS (fun k => (Value.slice a M.length cap).ownBlock = some k) w4 w6 := (((Fr.refl w4 _).alloc _).drew).grown hg6 fun k hk _ => hk
        refine hK.out _ _ hS6 ?_
        clear hK K
        try simp only [Act.put, List.setIfInBounds_toArray, List.set_cons_zero, List.set_cons_succ]
        refine wpAnyS_take (i := 8) (v := ?_) rfl (by kernel_rfl) (fun _ _ _ h => h) (by rfl) hS6 ?_ ?_
        rotate_left
        · intro w' hS'
          (try dsimp only at hS')
          go_simp <;> with_reducible rfl
        try simp only [Act.put, List.setIfInBounds_toArray, List.set_cons_zero, List.set_cons_succ]
        refine wpAnyS_take (i := 9) (v := ?_) rfl (by kernel_rfl) (fun _ _ _ h => h) (by rfl) hS6 ?_ ?_
        rotate_left
        · intro w' hS'
          (try dsimp only at hS')
          go_simp <;> with_reducible rfl
        try simp only [Act.put, List.setIfInBounds_toArray, List.set_cons_zero, List.set_cons_succ]
        have hb6 := HG4.out.root.fr hS6 HNR.out
        have y0 := hb6.cell 3
        have y1 := hb6.free 3
        simp only [List.getElem?_cons_zero, List.getElem?_cons_succ] at y0
        refine wpAnyS_last (i := 10) rfl (by kernel_rfl) (by decide) (by kernel_rfl) (by rfl) fun K hK => ?_
        go_simp
        refine hK.out _ _ ?_
        clear hK K
        have hst := HG4.out.store (M' := M ++ [(x, n)]) hS6 (by rw [flatM_app, List.length_append]; exact ho6) (fun k hk => by
          rcases hat6 with e | e
          · exact .inl (e.symm.trans hk)
          · rw [e] at hk
            cases hk
            right
            show w4.heap.size ≤ (w4.alloc _).heap.size
            simp)
        have HST := Lib.hid hst
        clear hst ho6 hg6 hat6 hS6 hb6 y0 y1 hSa hSb hfb hown hsl k0 k1 k2 k3 k4 k5
        go_wp2_with fail
        go_ret
        exact ⟨by rw [HR.out.1]; rfl, by rw [HR.out.2]; exact HST.out.1, (HF4.out.of_nil).transS HST.out.2⟩
    · rw [h1] at he
      subst he
      have HR : Hid (enterC c M x n = 2 ∧ enterM c M x n = M) := by
        have : enterC c M x n = 2 ∧ enterM c M x n = M := by unfold enterC enterM; rw [h2]; simp
        exact this
      clear h1 h2 hj hrx
      go_wp2_with fail
      go_ret
      exact ⟨by rw [HR.out.1]; rfl, by rw [HR.out.2]; exact ⟨_, HG2.out⟩, HF2.out.of_nil⟩
end Go.Proofs.Ytplebgcgoigigaa
