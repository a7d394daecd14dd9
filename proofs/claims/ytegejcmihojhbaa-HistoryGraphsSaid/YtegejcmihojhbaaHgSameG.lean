/-
  The law's sameGraph (interlocklaw19): two that read as one graph are the same.
  No condition but sizes.
-/
import Derived.Test.YtegejcmihojhbaaHgPts
import Derived.Test.YtegejcmihojhbaaHsSame
namespace Go.Proofs.Ytegejcmihojhbaa
open Go Go.RowKit

set_option maxRecDepth 100000 in
set_option maxHeartbeats 1000000 in
theorem sameg_any (gv hv : Value) (G : List (List Int)) (w : World) (hg : GraphAt w gv G) (hh : GraphAt w hv G) (hl : G.length ≤ 1000000) :
    Calls Try.prog 23 #[gv, hv] w fun e w' => e = .returned (.bool true) ∧ Fr w w' Nil := by
  obtain ⟨ga, gcap, rfl⟩ := hg.shape
  obtain ⟨ha, hcap, rfl⟩ := hh.shape
  have HG := Lib.hid hg
  have HH := Lib.hid hh
  clear hg hh
  go_enter Try.func23, Try.ntmps23
  go_wp2_with fail
  go_loopw [5] (fun vi wr => ∃ i : Nat, i ≤ G.length ∧ vi = .int .i64 i ∧ Fr w wr Nil) (fun vi _ => G.length - (intOf vi).toNat)
  case atStart => exact ⟨0, by omega, rfl, Fr.refl _ _⟩
  case round =>
    obtain ⟨i, hi, rfl, hf⟩ := hrel
    have Hf := Lib.hid hf
    obtain ⟨wo, rfl⟩ : ∃ wo : World, wo = wr := ⟨_, rfl⟩
    clear hf
    by_cases hlt : i < G.length
    · obtain ⟨xs, hxs⟩ : ∃ xs, G[i]? = some xs := ⟨_, List.getElem?_eq_getElem hlt⟩
      obtain ⟨gb, goff, gcap2, hgv, hgc⟩ := (HG.out.fr0 Hf.out).form (by omega)
      simp only [Value.slice.injEq, true_and] at hgv
      obtain ⟨rfl, rfl⟩ := hgv
      obtain ⟨hb, hoff, hcap2, hhv, hhc⟩ := (HH.out.fr0 Hf.out).form (by omega)
      simp only [Value.slice.injEq, true_and] at hhv
      obtain ⟨rfl, rfl⟩ := hhv
      obtain ⟨u, hu, hux, hul⟩ := hgc i xs hxs
      obtain ⟨v, hv, hvx, _⟩ := hhc i xs hxs
      have HUX := Lib.hid hux
      have HVX := Lib.hid hvx
      have k0 := KeptN.cell hu
      have m0 := KeptN.cell hv
      have hil : (i : Int) < (G.length : Int) := by omega
      clear hgc hhc hu hv hux hvx hxs
      go_wp2_with fail
      refine wp_region_sink 9 (KeptN wo) (by kernel_rfl) ?_
      have hSa : KeptN wo wo.drew := KeptN.start _
      refine wpAnyS_take (i := 0) (v := ?_) rfl (by kernel_rfl) (fun _ _ _ h => h) (by rfl) hSa ?_ ?_
      rotate_left
      · intro w' hS'
        (try dsimp only at hS')
        go_simp <;> with_reducible rfl
      try simp only [Act.put, List.setIfInBounds_toArray, List.set_cons_zero, List.set_cons_succ]
      refine wpAnyS_take (i := 1) (v := ?_) rfl (by kernel_rfl) (fun _ _ _ h => h) (by rfl) hSa ?_ ?_
      rotate_left
      · intro w' hS'
        (try dsimp only at hS')
        go_simp <;> with_reducible rfl
      try simp only [Act.put, List.setIfInBounds_toArray, List.set_cons_zero, List.set_cons_succ]
      refine wpAnyS_take (i := 2) (v := ?_) rfl (by kernel_rfl) (fun _ _ _ h => h) (by rfl) hSa ?_ ?_
      rotate_left
      · intro w' hS'
        (try dsimp only at hS')
        go_simp <;> with_reducible rfl
      try simp only [Act.put, List.setIfInBounds_toArray, List.set_cons_zero, List.set_cons_succ]
      refine wpAnyS_take (i := 3) (v := ?_) rfl (by kernel_rfl) (fun _ _ _ h => h) (by rfl) hSa ?_ ?_
      rotate_left
      · intro w' hS'
        have ck0 := k0 _ hS'
        go_simp <;> with_reducible rfl
      try simp only [Act.put, List.setIfInBounds_toArray, List.set_cons_zero, List.set_cons_succ]
      refine wpAnyS_take (i := 4) (v := ?_) rfl (by kernel_rfl) (fun _ _ _ h => h) (by rfl) hSa ?_ ?_
      rotate_left
      · intro w' hS'
        (try dsimp only at hS')
        go_simp <;> with_reducible rfl
      try simp only [Act.put, List.setIfInBounds_toArray, List.set_cons_zero, List.set_cons_succ]
      refine wpAnyS_take (i := 5) (v := ?_) rfl (by kernel_rfl) (fun _ _ _ h => h) (by rfl) hSa ?_ ?_
      rotate_left
      · intro w' hS'
        (try dsimp only at hS')
        go_simp <;> with_reducible rfl
      try simp only [Act.put, List.setIfInBounds_toArray, List.set_cons_zero, List.set_cons_succ]
      refine wpAnyS_take (i := 6) (v := ?_) rfl (by kernel_rfl) (fun _ _ _ h => h) (by rfl) hSa ?_ ?_
      rotate_left
      · intro w' hS'
        (try dsimp only at hS')
        go_simp <;> with_reducible rfl
      try simp only [Act.put, List.setIfInBounds_toArray, List.set_cons_zero, List.set_cons_succ]
      refine wpAnyS_take (i := 7) (v := ?_) rfl (by kernel_rfl) (fun _ _ _ h => h) (by rfl) hSa ?_ ?_
      rotate_left
      · intro w' hS'
        have cm0 := m0 _ hS'
        go_simp <;> with_reducible rfl
      try simp only [Act.put, List.setIfInBounds_toArray, List.set_cons_zero, List.set_cons_succ]
      refine wpAnyS_one (i := 8) rfl (by kernel_rfl) (by decide) (by rfl) fun K hK => ?_
      go_simp
      refine (same_any _ _ xs xs _ (HUX.out.fr hSa fun _ _ h => h) (HVX.out.fr hSa fun _ _ h => h) hul).mono ?_
      rintro e w2 ⟨rfl, hf2⟩
      rw [show sameB xs xs = true by unfold sameB; simp]
      have hSb : KeptN wo w2 := Fr.trans0 hSa hf2
      refine hK.out _ _ hSb ?_
      clear hK K
      try simp only [Act.put, List.setIfInBounds_toArray, List.set_cons_zero, List.set_cons_succ]
      have Hf2 := Lib.hid (Fr.trans0 Hf.out hSb)
      refine wpAnyS_last (i := 9) rfl (by kernel_rfl) (by decide) (by kernel_rfl) (by rfl) fun K hK => ?_
      go_simp
      refine hK.out _ _ ?_
      clear hK K hSa hSb hf2 k0 m0
      go_wp2_with fail
      go_roundw
      case rel => exact ⟨i + 1, by omega, by go_num, Hf2.out⟩
      case measure => simp [intOf]; omega
    · obtain rfl : i = G.length := by omega
      go_wp2_with fail
      go_ret
      exact ⟨rfl, Hf.out⟩
end Go.Proofs.Ytegejcmihojhbaa
