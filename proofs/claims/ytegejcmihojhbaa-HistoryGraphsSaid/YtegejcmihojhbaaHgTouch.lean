/-
  The law's touches (interlocklaw19): a copy of the touches as the document has them.
  No condition but sizes.
-/
import Derived.Test.YtegejcmihojhbaaHgPts
namespace Go.Proofs.Ytegejcmihojhbaa
open Go Go.RowKit

theorem slTch : SlT Try.prog 49 55 5 40 :=
  SlT.mk (z := .agg #[.int .i64 0, .int .i64 0, .bool false, .int .i64 0, .bool false]) Try.underlying49 (by kernel_rfl) (by rfl) (by decide) (by decide)
theorem tch_one (g : List TouchD) : ∀ u ∈ g.flatMap TouchD.vals, u.oneCell' = true := by
  intro u hu
  simp only [List.mem_flatMap, TouchD.vals] at hu
  obtain ⟨r, _, hu⟩ := hu
  simp only [List.mem_cons, List.not_mem_nil, or_false] at hu
  rcases hu with rfl | rfl | rfl | rfl | rfl <;> rfl
theorem sl_tch (w : World) (e : TypeId) (r : TouchD) : SlAt (w.alloc (.cells r.vals.toArray e)) 5 (.slice (some ⟨w.heap.size, 0, none⟩) 1 1) 1 ([r].flatMap TouchD.vals) :=
  ⟨rfl, .inr ⟨_, 1, rfl, fun j u hu => by
    rw [Addr.add_lit, Nat.zero_add, (Bk.new w e r.vals.toArray).cell j]
    simpa using hu⟩⟩

set_option maxRecDepth 100000 in
set_option maxHeartbeats 2000000 in
theorem touches_any (ta : Option Addr) (tcap : Nat) (ts : List TouchD) (w : World) (h : TouchesAt w (.slice ta ts.length tcap) ts) (hl : ts.length ≤ 1000) :
    Calls Try.prog 17 #[.slice ta ts.length tcap] w fun e w' => ∃ a cap, e = .returned (.slice a ts.length cap) ∧ w'.ownsRow 0 55 5 (.slice a ts.length cap) ts.length (ts.flatMap TouchD.vals) ∧ (∀ k, (Value.slice a ts.length cap).ownBlock = some k → w.heap.size ≤ k) ∧ Fr w w' Nil := by
  have H := Lib.hid h
  clear h
  go_enter Try.func17, Try.ntmps17
  go_wp2_with fail
  go_loopw [3, 4] (fun vs vi wr => ∃ (i : Nat) (a : Option Addr) (cap : Nat), i ≤ ts.length ∧ vi = .int .i64 i ∧ vs = .slice a i cap ∧ wr.ownsRow 0 55 5 (.slice a i cap) i ((ts.take i).flatMap TouchD.vals) ∧ (∀ k, (Value.slice a i cap).ownBlock = some k → w.heap.size ≤ k) ∧ Fr w wr Nil) (fun _ vi _ => ts.length - (intOf vi).toNat)
  case atStart => exact ⟨0, none, 0, by omega, rfl, rfl, World.ownsRow_nil _ _ _ _, (fun k hk => by cases hk), Fr.refl _ _⟩
  case round =>
    obtain ⟨i, a, cap, hi, rfl, rfl, ho, hb, hf⟩ := hrel
    have HO := Lib.hid ho
    have HB := Lib.hid hb
    have Hf := Lib.hid hf
    obtain ⟨wo, rfl⟩ : ∃ wo : World, wo = wr := ⟨_, rfl⟩
    clear ho hb hf
    by_cases hlt : i < ts.length
    · obtain ⟨tb, toff, tcap2, hv, hc⟩ := TouchesAt.form H.out (by omega)
      simp only [Value.slice.injEq, true_and] at hv
      obtain ⟨rfl, rfl⟩ := hv
      have hit := List.getElem?_eq_getElem hlt
      have HT : Hid ((ts.take (i + 1)).flatMap TouchD.vals = (ts.take i).flatMap TouchD.vals ++ [ts[i]].flatMap TouchD.vals) := by
        have : (ts.take (i + 1)).flatMap TouchD.vals = (ts.take i).flatMap TouchD.vals ++ [ts[i]].flatMap TouchD.vals := by rw [List.take_succ_eq_append_getElem hlt, List.flatMap_append]
        exact this
      generalize ts[i] = t at hit HT
      obtain ⟨c0, c1, c2, c3, c4⟩ := hc i t hit
      obtain ⟨tw, tt, tr, tk, twr, tok⟩ := t
      simp only at c0 c1 c2 c3 c4
      have k0 := KeptN.cell c0
      have k1 := KeptN.cell c1
      have k2 := KeptN.cell c2
      have k3 := KeptN.cell c3
      have k4 := KeptN.cell c4
      have hil : (i : Int) < (ts.length : Int) := by omega
      clear hc hit c0 c1 c2 c3 c4
      go_wp2_with fail
      refine wp_region_sink 19 (KeptN w) (by kernel_rfl) ?_
      have hSa : KeptN w wo.drew := Hf.out.drew
      refine wpAnyS_take (i := 0) (v := ?_) rfl (by kernel_rfl) (fun _ _ _ h => h) (by rfl) hSa ?_ ?_
      rotate_left
      · intro w' hS'
        (try dsimp only at hS')
        go_simp <;> with_reducible rfl
      try simp only [Act.put, List.setIfInBounds_toArray, List.set_cons_zero, List.set_cons_succ]
      refine wpAnyS_take (i := 1) (v := ?_) rfl (by kernel_rfl) (fun _ _ _ h => h) (by rfl) hSa ?_ ?_
      rotate_left
      · intro w' hS'
        (try dsimp only at hS')
        go_simp <;> with_reducible rfl
      try simp only [Act.put, List.setIfInBounds_toArray, List.set_cons_zero, List.set_cons_succ]
      refine wpAnyS_take (i := 2) (v := ?_) rfl (by kernel_rfl) (fun _ _ _ h => h) (by rfl) hSa ?_ ?_
      rotate_left
      · intro w' hS'
        (try dsimp only at hS')
        go_simp <;> with_reducible rfl
      try simp only [Act.put, List.setIfInBounds_toArray, List.set_cons_zero, List.set_cons_succ]
      refine wpAnyS_take (i := 3) (v := ?_) rfl (by kernel_rfl) (fun _ _ _ h => h) (by rfl) hSa ?_ ?_
      rotate_left
      · intro w' hS'
        (try dsimp only at hS')
        go_simp <;> with_reducible rfl
      try simp only [Act.put, List.setIfInBounds_toArray, List.set_cons_zero, List.set_cons_succ]
      refine wpAnyS_take (i := 4) (v := ?_) rfl (by kernel_rfl) (fun _ _ _ h => h) (by rfl) hSa ?_ ?_
      rotate_left
      · intro w' hS'
        (try dsimp only at hS')
        go_simp <;> with_reducible rfl
      try simp only [Act.put, List.setIfInBounds_toArray, List.set_cons_zero, List.set_cons_succ]
      refine wpAnyS_take (i := 5) (v := ?_) rfl (by kernel_rfl) (fun _ _ _ h => h) (by rfl) hSa ?_ ?_
      rotate_left
      · intro w' hS'
        have ck0 := k0 _ hS'
        go_simp <;> with_reducible rfl
      try simp only [Act.put, List.setIfInBounds_toArray, List.set_cons_zero, List.set_cons_succ]
      refine wpAnyS_take (i := 6) (v := ?_) rfl (by kernel_rfl) (fun _ _ _ h => h) (by rfl) hSa ?_ ?_
      rotate_left
      · intro w' hS'
        (try dsimp only at hS')
        go_simp <;> with_reducible rfl
      try simp only [Act.put, List.setIfInBounds_toArray, List.set_cons_zero, List.set_cons_succ]
      refine wpAnyS_take (i := 7) (v := ?_) rfl (by kernel_rfl) (fun _ _ _ h => h) (by rfl) hSa ?_ ?_
      rotate_left
      · intro w' hS'
        (try dsimp only at hS')
        go_simp <;> with_reducible rfl
      try simp only [Act.put, List.setIfInBounds_toArray, List.set_cons_zero, List.set_cons_succ]
      refine wpAnyS_take (i := 8) (v := ?_) rfl (by kernel_rfl) (fun _ _ _ h => h) (by rfl) hSa ?_ ?_
      rotate_left
      · intro w' hS'
        (try dsimp only at hS')
        go_simp <;> with_reducible rfl
      try simp only [Act.put, List.setIfInBounds_toArray, List.set_cons_zero, List.set_cons_succ]
      refine wpAnyS_take (i := 9) (v := ?_) rfl (by kernel_rfl) (fun _ _ _ h => h) (by rfl) hSa ?_ ?_
      rotate_left
      · intro w' hS'
        (try dsimp only at hS')
        go_simp <;> with_reducible rfl
      try simp only [Act.put, List.setIfInBounds_toArray, List.set_cons_zero, List.set_cons_succ]
      refine wpAnyS_take (i := 10) (v := ?_) rfl (by kernel_rfl) (fun _ _ _ h => h) (by rfl) hSa ?_ ?_
      rotate_left
      · intro w' hS'
        have ck1 := k1 _ hS'
        have ck2 := k2 _ hS'
        have ck3 := k3 _ hS'
        go_simp <;> with_reducible rfl
      try simp only [Act.put, List.setIfInBounds_toArray, List.set_cons_zero, List.set_cons_succ]
      refine wpAnyS_take (i := 11) (v := ?_) rfl (by kernel_rfl) (fun _ _ _ h => h) (by rfl) hSa ?_ ?_
      rotate_left
      · intro w' hS'
        (try dsimp only at hS')
        go_simp <;> with_reducible rfl
      try simp only [Act.put, List.setIfInBounds_toArray, List.set_cons_zero, List.set_cons_succ]
      refine wpAnyS_take (i := 12) (v := ?_) rfl (by kernel_rfl) (fun _ _ _ h => h) (by rfl) hSa ?_ ?_
      rotate_left
      · intro w' hS'
        (try dsimp only at hS')
        go_simp <;> with_reducible rfl
      try simp only [Act.put, List.setIfInBounds_toArray, List.set_cons_zero, List.set_cons_succ]
      refine wpAnyS_take (i := 13) (v := ?_) rfl (by kernel_rfl) (fun _ _ _ h => h) (by rfl) hSa ?_ ?_
      rotate_left
      · intro w' hS'
        (try dsimp only at hS')
        go_simp <;> with_reducible rfl
      try simp only [Act.put, List.setIfInBounds_toArray, List.set_cons_zero, List.set_cons_succ]
      refine wpAnyS_take (i := 14) (v := ?_) rfl (by kernel_rfl) (fun _ _ _ h => h) (by rfl) hSa ?_ ?_
      rotate_left
      · intro w' hS'
        (try dsimp only at hS')
        go_simp <;> with_reducible rfl
      try simp only [Act.put, List.setIfInBounds_toArray, List.set_cons_zero, List.set_cons_succ]
      refine wpAnyS_take (i := 15) (v := ?_) rfl (by kernel_rfl) (fun _ _ _ h => h) (by rfl) hSa ?_ ?_
      rotate_left
      · intro w' hS'
        have ck4 := k4 _ hS'
        go_simp <;> with_reducible rfl
      try simp only [Act.put, List.setIfInBounds_toArray, List.set_cons_zero, List.set_cons_succ]
      refine wpAnyS_take (i := 16) (v := ?_) rfl (by kernel_rfl) (fun _ _ _ h => h) (by rfl) hSa ?_ ?_
      rotate_left
      · intro w' hS'
        (try dsimp only at hS')
        go_simp <;> with_reducible rfl
      try simp only [Act.put, List.setIfInBounds_toArray, List.set_cons_zero, List.set_cons_succ]
      refine wpAnyS_one (i := 17) rfl (by kernel_rfl) (by decide) (by rfl) fun K hK => ?_
      go_simp
      have hSb : KeptN w (wo.alloc (.cells #[.int .i64 tw, .int .i64 tt, .bool tr, .int .i64 tk, .bool twr] 55)).drew := (Hf.out.alloc _).drew
      have hfb : Fr wo (wo.alloc (.cells #[.int .i64 tw, .int .i64 tt, .bool tr, .int .i64 tk, .bool twr] 55)).drew Nil := ((Fr.refl wo Nil).alloc _).drew
      have hown := hfb.own HO.out (fun _ _ h => h)
      have hsl := (sl_tch wo 55 ⟨tw, tt, tr, tk, twr, tok⟩).fr0 ((Fr.refl _ Nil).drew)
      refine hK.out _ _ hSb ?_
      clear hK K
      try simp only [Act.put, List.setIfInBounds_toArray, List.set_cons_zero, List.set_cons_succ]
      refine wpAnyS_one (i := 18) rfl (by kernel_rfl) (by decide) (by rfl) fun K hK => ?_
      refine wp_app _ _ _ _ (by rfl) slTch (.slice a i cap) (by rfl) hown (.slice (some ⟨wo.heap.size, 0, none⟩) 1 1) (by rfl) hsl (tch_one _) (by omega) ?_
      intro a6 c6 w6 ho6 hg6 hat6
      have hS6 : KeptN w w6 := Fr.grown hSb hg6 fun k hk hlt => absurd hlt (by have := HB.out k hk; omega)
      refine hK.out _ _ hS6 ?_
      clear hK K
      try simp only [Act.put, List.setIfInBounds_toArray, List.set_cons_zero, List.set_cons_succ]
      refine wpAnyS_last (i := 19) rfl (by kernel_rfl) (by decide) (by kernel_rfl) (by rfl) fun K hK => ?_
      go_simp
      refine hK.out _ _ ?_
      clear hK K
      have HO6 : Hid (w6.ownsRow 0 55 5 (.slice a6 (i + 1) c6) (i + 1) ((ts.take (i + 1)).flatMap TouchD.vals)) := by
        have := ho6
        rw [← HT.out] at this
        exact this
      have HB6 : Hid (∀ k, (Value.slice a6 (i + 1) c6).ownBlock = some k → w.heap.size ≤ k) := by
        have : ∀ k, (Value.slice a6 (i + 1) c6).ownBlock = some k → w.heap.size ≤ k := fun k hk => by
          rcases hat6 with e | e
          · exact HB.out k (e.symm.trans hk)
          · rw [e] at hk
            cases hk
            exact hSb.size
        exact this
      have Hf6 := Lib.hid hS6
      clear hSa hSb hfb hown hsl ho6 hg6 hat6 hS6 k0 k1 k2 k3 k4
      go_wp2_with fail
      go_roundw
      case rel => exact ⟨i + 1, a6, c6, by omega, by go_num, rfl, HO6.out, HB6.out, Hf6.out⟩
      case measure => simp [intOf]; omega
    · obtain rfl : i = ts.length := by omega
      have HO2 : Hid (wo.ownsRow 0 55 5 (.slice a ts.length cap) ts.length (ts.flatMap TouchD.vals)) := by
        have := HO.out
        rw [List.take_length] at this
        exact this
      go_wp2_with fail
      go_ret
      exact ⟨a, cap, rfl, HO2.out, HB.out, Hf.out⟩
end Go.Proofs.Ytegejcmihojhbaa
