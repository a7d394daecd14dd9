/-
  HistoryGraphs: who finished, what conflicts, the graph, as the document says.
  No condition.
-/
import Derived.Test.YtegejcmihojhbaaHsWorks
import Derived.Test.YtegejcmihojhbaaHgFin
import Derived.Test.YtegejcmihojhbaaHgRFin
import Derived.Test.YtegejcmihojhbaaHgGraph
import Derived.Test.YtegejcmihojhbaaHgDirty
import Derived.Test.YtegejcmihojhbaaHgRDirty
import Derived.Test.YtegejcmihojhbaaHgSameG
import Derived.Test.YtegejcmihojhbaaHgTouch
import Derived.Test.YtegejcmihojhbaaHgArgs
namespace Go.Proofs.Ytegejcmihojhbaa
open Go Go.RowKit

theorem conf_turn (a b : TouchD) : conf b a = conf a b := by
  unfold conf
  rw [Bool.eq_iff_iff]
  simp only [Bool.and_eq_true, Bool.not_eq_true', beq_eq_false_iff_ne, Bool.or_eq_true, beq_iff_eq]
  constructor
  · rintro ⟨⟨⟨h1, h2⟩, h3⟩, h4⟩
    exact ⟨⟨⟨fun e => h1 e.symm, h2.symm⟩, h3.symm⟩, by rcases h4 with (h | h) | h; exact .inl (.inr h); exact .inl (.inl h); exact .inr h.symm⟩
  · rintro ⟨⟨⟨h1, h2⟩, h3⟩, h4⟩
    exact ⟨⟨⟨fun e => h1 e.symm, h2.symm⟩, h3.symm⟩, by rcases h4 with (h | h) | h; exact .inl (.inr h); exact .inl (.inl h); exact .inr h.symm⟩

set_option maxRecDepth 100000 in
set_option maxHeartbeats 8000000 in
theorem graphs_main (lv tv : Value) (l : List AnsD) (ts : List TouchD) (w : World) (hl : AsAt w lv l) (ht : TsAt w tv ts) (h1 : l.length ≤ 30) (h2 : ts.length ≤ 60) :
    Calls Try.prog 6 #[lv, tv] w fun e w' => e = .returned (.bool true) ∧ Fr w w' Nil := by
  obtain ⟨la, lcap, rfl⟩ := hl.shape
  obtain ⟨ta, tcap, rfl, htc⟩ := ht.shape
  have HL := Lib.hid hl.1
  have HT := Lib.hid ht.1
  clear hl ht
  go_enter Try.func6, Try.ntmps6
  go_wp2_with fail
  refine (touches_any ta tcap ts _ HT.out (by omega)).mono ?_
  rintro e w1 ⟨aa, acap, rfl, ho1, hb1, hf1⟩
  have HA1 := Lib.hid (SlAt.of_own ho1).1
  have Hf1 := Lib.hid hf1
  clear ho1 hb1 hf1
  go_wp2_with fail
  refine (answers_any la lcap l _ (SlAt.fr0 HL.out Hf1.out) (by omega)).mono ?_
  rintro e w2 ⟨ba, bcap, rfl, ho2, hb2, hf2⟩
  have HB := Lib.hid (SlAt.of_own ho2).1
  have HA : Hid (TouchesAt w2 (.slice aa ts.length acap) ts) := SlAt.fr0 HA1.out hf2
  have HT2 : Hid (TouchesAt w2 (.slice ta ts.length tcap) ts) := SlAt.fr0 HT.out (Hf1.out.trans0 hf2)
  have HL2 : Hid (AnsAt w2 (.slice la l.length lcap) l) := SlAt.fr0 HL.out (Hf1.out.trans0 hf2)
  have HF2 := Lib.hid (Hf1.out.trans0 hf2)
  clear ho2 hb2 hf2 HA1 Hf1 HL HT
  go_wp2_with fail
  go_loopw [7, 8] (fun vi _ wr => ∃ i : Nat, i ≤ ts.length ∧ vi = .int .i64 i ∧ Fr w2 wr Nil) (fun vi _ _ => ts.length - (intOf vi).toNat)
  case atStart => exact ⟨0, by omega, rfl, Fr.refl _ _⟩
  case round =>
    obtain ⟨i, hi, rfl, hf⟩ := hrel
    have Hf := Lib.hid hf
    obtain ⟨wo, rfl⟩ : ∃ wo : World, wo = wr := ⟨_, rfl⟩
    clear hf
    by_cases hlt : i < ts.length
    · go_wp2_with fail
      go_loopw [8] (fun vk wr => ∃ k : Nat, k ≤ ts.length ∧ vk = .int .i64 k ∧ Fr w2 wr Nil) (fun vk _ => ts.length - (intOf vk).toNat)
      case atStart => exact ⟨0, by omega, rfl, Hf.out⟩
      case round =>
        clear Hf
        obtain ⟨k, hk, rfl, hf⟩ := hrel
        have Hf := Lib.hid hf
        obtain ⟨wi, rfl⟩ : ∃ wi : World, wi = wr := ⟨_, rfl⟩
        clear hf
        by_cases hlk : k < ts.length
        · obtain ⟨tb, toff, tcap2, hv, hc⟩ := TouchesAt.form (SlAt.fr0 HT2.out Hf.out) (by omega)
          simp only [Value.slice.injEq, true_and] at hv
          obtain ⟨rfl, rfl⟩ := hv
          obtain ⟨ab, aoff, acap2, hv, hd⟩ := TouchesAt.form (SlAt.fr0 HA.out Hf.out) (by omega)
          simp only [Value.slice.injEq, true_and] at hv
          obtain ⟨rfl, rfl⟩ := hv
          obtain ⟨c0, c1, c2, c3, c4⟩ := hc i _ (List.getElem?_eq_getElem hlt)
          obtain ⟨d0, d1, d2, d3, d4⟩ := hc k _ (List.getElem?_eq_getElem hlk)
          obtain ⟨e0, e1, e2, e3, e4⟩ := hd i _ (List.getElem?_eq_getElem hlt)
          obtain ⟨f0, f1, f2, f3, f4⟩ := hd k _ (List.getElem?_eq_getElem hlk)
          generalize ts[i] = x at *
          generalize ts[k] = y at *
          have k0 := KeptN.cell c0
          have k1 := KeptN.cell c1
          have k2 := KeptN.cell c2
          have k3 := KeptN.cell c3
          have k4 := KeptN.cell c4
          have m0 := KeptN.cell d0
          have m1 := KeptN.cell d1
          have m2 := KeptN.cell d2
          have m3 := KeptN.cell d3
          have m4 := KeptN.cell d4
          have n0 := KeptN.cell e0
          have n1 := KeptN.cell e1
          have n2 := KeptN.cell e2
          have n3 := KeptN.cell e3
          have n4 := KeptN.cell e4
          have r0 := KeptN.cell f0
          have r1 := KeptN.cell f1
          have r2 := KeptN.cell f2
          have r3 := KeptN.cell f3
          have r4 := KeptN.cell f4
          have hil : (i : Int) < (ts.length : Int) := by omega
          have hkl : (k : Int) < (ts.length : Int) := by omega
          obtain ⟨cf, hcf⟩ : ∃ cf, conf x y = cf := ⟨_, rfl⟩
          have HC := Lib.hid hcf
          clear hc hd hcf c0 c1 c2 c3 c4 d0 d1 d2 d3 d4 e0 e1 e2 e3 e4 f0 f1 f2 f3 f4
          go_wp2_with fail
          refine wp_region_sink 39 (KeptN wi) (by kernel_rfl) ?_
          have hSa : KeptN wi wi.drew := KeptN.start _
          refine wpAnyS_take (i := 0) (v := ?_) rfl (by kernel_rfl) (fun _ _ _ h => h) (by rfl) hSa ?_ ?_
          rotate_left
          · intro w' hS'
            (try dsimp only at hS')
            go_simp <;> with_reducible rfl
          try simp only [Act.put, List.setIfInBounds_toArray, List.set_cons_zero, List.set_cons_succ]
          refine wpAnyS_take (i := 1) (v := ?_) rfl (by kernel_rfl) (fun _ _ _ h => h) (by rfl) hSa ?_ ?_
          rotate_left
          · intro w' hS'
            (try dsimp only at hS')
            go_simp <;> with_reducible rfl
          try simp only [Act.put, List.setIfInBounds_toArray, List.set_cons_zero, List.set_cons_succ]
          refine wpAnyS_take (i := 2) (v := ?_) rfl (by kernel_rfl) (fun _ _ _ h => h) (by rfl) hSa ?_ ?_
          rotate_left
          · intro w' hS'
            (try dsimp only at hS')
            go_simp <;> with_reducible rfl
          try simp only [Act.put, List.setIfInBounds_toArray, List.set_cons_zero, List.set_cons_succ]
          refine wpAnyS_take (i := 3) (v := ?_) rfl (by kernel_rfl) (fun _ _ _ h => h) (by rfl) hSa ?_ ?_
          rotate_left
          · intro w' hS'
            have ck0 := k0 _ hS'
            have ck1 := k1 _ hS'
            have ck2 := k2 _ hS'
            have ck3 := k3 _ hS'
            have ck4 := k4 _ hS'
            go_simp <;> with_reducible rfl
          try simp only [Act.put, List.setIfInBounds_toArray, List.set_cons_zero, List.set_cons_succ]
          refine wpAnyS_take (i := 4) (v := ?_) rfl (by kernel_rfl) (fun _ _ _ h => h) (by rfl) hSa ?_ ?_
          rotate_left
          · intro w' hS'
            (try dsimp only at hS')
            go_simp <;> with_reducible rfl
          try simp only [Act.put, List.setIfInBounds_toArray, List.set_cons_zero, List.set_cons_succ]
          refine wpAnyS_take (i := 5) (v := ?_) rfl (by kernel_rfl) (fun _ _ _ h => h) (by rfl) hSa ?_ ?_
          rotate_left
          · intro w' hS'
            (try dsimp only at hS')
            go_simp <;> with_reducible rfl
          try simp only [Act.put, List.setIfInBounds_toArray, List.set_cons_zero, List.set_cons_succ]
          refine wpAnyS_take (i := 6) (v := ?_) rfl (by kernel_rfl) (fun _ _ _ h => h) (by rfl) hSa ?_ ?_
          rotate_left
          · intro w' hS'
            (try dsimp only at hS')
            go_simp <;> with_reducible rfl
          try simp only [Act.put, List.setIfInBounds_toArray, List.set_cons_zero, List.set_cons_succ]
          refine wpAnyS_take (i := 7) (v := ?_) rfl (by kernel_rfl) (fun _ _ _ h => h) (by rfl) hSa ?_ ?_
          rotate_left
          · intro w' hS'
            have cm0 := m0 _ hS'
            have cm1 := m1 _ hS'
            have cm2 := m2 _ hS'
            have cm3 := m3 _ hS'
            have cm4 := m4 _ hS'
            go_simp <;> with_reducible rfl
          try simp only [Act.put, List.setIfInBounds_toArray, List.set_cons_zero, List.set_cons_succ]
          refine wpAnyS_take (i := 9) (v := ?_) rfl (by kernel_rfl) (fun _ _ _ h => h) (by rfl) hSa ?_ ?_
          rotate_left
          · intro w' hS'
            (try dsimp only at hS')
            go_simp <;> with_reducible rfl
          try simp only [Act.put, List.setIfInBounds_toArray, List.set_cons_zero, List.set_cons_succ]
          refine wpAnyS_take (i := 10) (v := ?_) rfl (by kernel_rfl) (fun _ _ _ h => h) (by rfl) hSa ?_ ?_
          rotate_left
          · intro w' hS'
            (try dsimp only at hS')
            go_simp <;> with_reducible rfl
          try simp only [Act.put, List.setIfInBounds_toArray, List.set_cons_zero, List.set_cons_succ]
          refine wpAnyS_take (i := 11) (v := ?_) rfl (by kernel_rfl) (fun _ _ _ h => h) (by rfl) hSa ?_ ?_
          rotate_left
          · intro w' hS'
            (try dsimp only at hS')
            go_simp <;> with_reducible rfl
          try simp only [Act.put, List.setIfInBounds_toArray, List.set_cons_zero, List.set_cons_succ]
          refine wpAnyS_take (i := 12) (v := ?_) rfl (by kernel_rfl) (fun _ _ _ h => h) (by rfl) hSa ?_ ?_
          rotate_left
          · intro w' hS'
            have cn0 := n0 _ hS'
            have cn1 := n1 _ hS'
            have cn2 := n2 _ hS'
            have cn3 := n3 _ hS'
            have cn4 := n4 _ hS'
            go_simp <;> with_reducible rfl
          try simp only [Act.put, List.setIfInBounds_toArray, List.set_cons_zero, List.set_cons_succ]
          refine wpAnyS_take (i := 13) (v := ?_) rfl (by kernel_rfl) (fun _ _ _ h => h) (by rfl) hSa ?_ ?_
          rotate_left
          · intro w' hS'
            (try dsimp only at hS')
            go_simp <;> with_reducible rfl
          try simp only [Act.put, List.setIfInBounds_toArray, List.set_cons_zero, List.set_cons_succ]
          refine wpAnyS_take (i := 14) (v := ?_) rfl (by kernel_rfl) (fun _ _ _ h => h) (by rfl) hSa ?_ ?_
          rotate_left
          · intro w' hS'
            (try dsimp only at hS')
            go_simp <;> with_reducible rfl
          try simp only [Act.put, List.setIfInBounds_toArray, List.set_cons_zero, List.set_cons_succ]
          refine wpAnyS_take (i := 15) (v := ?_) rfl (by kernel_rfl) (fun _ _ _ h => h) (by rfl) hSa ?_ ?_
          rotate_left
          · intro w' hS'
            (try dsimp only at hS')
            go_simp <;> with_reducible rfl
          try simp only [Act.put, List.setIfInBounds_toArray, List.set_cons_zero, List.set_cons_succ]
          refine wpAnyS_take (i := 16) (v := ?_) rfl (by kernel_rfl) (fun _ _ _ h => h) (by rfl) hSa ?_ ?_
          rotate_left
          · intro w' hS'
            have cr0 := r0 _ hS'
            have cr1 := r1 _ hS'
            have cr2 := r2 _ hS'
            have cr3 := r3 _ hS'
            have cr4 := r4 _ hS'
            go_simp <;> with_reducible rfl
          try simp only [Act.put, List.setIfInBounds_toArray, List.set_cons_zero, List.set_cons_succ]
          refine wpAnyS_one (i := 8) rfl (by kernel_rfl) (by decide) (by rfl) fun K hK => ?_
          go_simp
          refine (conflict_any x y _).mono ?_
          rintro e w3 ⟨rfl, hf3⟩
          rw [HC.out]
          have hSb : KeptN wi w3 := Fr.trans0 hSa hf3
          refine hK.out _ _ hSb ?_
          clear hK K hSa hf3
          try simp only [Act.put, List.setIfInBounds_toArray, List.set_cons_zero, List.set_cons_succ]
          refine wpAnyS_one (i := 17) rfl (by kernel_rfl) (by decide) (by rfl) fun K hK => ?_
          go_simp
          refine (rconflict_any x y _).mono ?_
          rintro e w4 ⟨rfl, hf4⟩
          rw [HC.out]
          have hSc : KeptN wi w4 := Fr.trans0 hSb hf4
          refine hK.out _ _ hSc ?_
          clear hK K hSb hf4
          try simp only [Act.put, List.setIfInBounds_toArray, List.set_cons_zero, List.set_cons_succ]
          cases cf
          all_goals
            refine wpAnyS_take (i := 18) (v := ?_) rfl (by kernel_rfl) (fun _ _ _ h => h) (by rfl) hSc ?_ ?_
            rotate_left
            · intro w' hS'
              (try dsimp only at hS')
              go_simp <;> with_reducible rfl
            try simp only [Act.put, List.setIfInBounds_toArray, List.set_cons_zero, List.set_cons_succ]
            refine wpAnyS_take (i := 19) (v := ?_) rfl (by kernel_rfl) (fun _ _ _ h => h) (by rfl) hSc ?_ ?_
            rotate_left
            · intro w' hS'
              (try dsimp only at hS')
              go_simp <;> with_reducible rfl
            try simp only [Act.put, List.setIfInBounds_toArray, List.set_cons_zero, List.set_cons_succ]
            refine wpAnyS_take (i := 20) (v := ?_) rfl (by kernel_rfl) (fun _ _ _ h => h) (by rfl) hSc ?_ ?_
            rotate_left
            · intro w' hS'
              (try dsimp only at hS')
              go_simp <;> with_reducible rfl
            try simp only [Act.put, List.setIfInBounds_toArray, List.set_cons_zero, List.set_cons_succ]
            refine wpAnyS_take (i := 21) (v := ?_) rfl (by kernel_rfl) (fun _ _ _ h => h) (by rfl) hSc ?_ ?_
            rotate_left
            · intro w' hS'
              (try dsimp only at hS')
              go_simp <;> with_reducible rfl
            try simp only [Act.put, List.setIfInBounds_toArray, List.set_cons_zero, List.set_cons_succ]
            refine wpAnyS_take (i := 22) (v := ?_) rfl (by kernel_rfl) (fun _ _ _ h => h) (by rfl) hSc ?_ ?_
            rotate_left
            · intro w' hS'
              (try dsimp only at hS')
              go_simp <;> with_reducible rfl
            try simp only [Act.put, List.setIfInBounds_toArray, List.set_cons_zero, List.set_cons_succ]
            refine wpAnyS_take (i := 23) (v := ?_) rfl (by kernel_rfl) (fun _ _ _ h => h) (by rfl) hSc ?_ ?_
            rotate_left
            · intro w' hS'
              have ck0 := k0 _ hS'
              have ck1 := k1 _ hS'
              have ck2 := k2 _ hS'
              have ck3 := k3 _ hS'
              have ck4 := k4 _ hS'
              go_simp <;> with_reducible rfl
            try simp only [Act.put, List.setIfInBounds_toArray, List.set_cons_zero, List.set_cons_succ]
            refine wpAnyS_take (i := 24) (v := ?_) rfl (by kernel_rfl) (fun _ _ _ h => h) (by rfl) hSc ?_ ?_
            rotate_left
            · intro w' hS'
              (try dsimp only at hS')
              go_simp <;> with_reducible rfl
            try simp only [Act.put, List.setIfInBounds_toArray, List.set_cons_zero, List.set_cons_succ]
            refine wpAnyS_take (i := 25) (v := ?_) rfl (by kernel_rfl) (fun _ _ _ h => h) (by rfl) hSc ?_ ?_
            rotate_left
            · intro w' hS'
              (try dsimp only at hS')
              go_simp <;> with_reducible rfl
            try simp only [Act.put, List.setIfInBounds_toArray, List.set_cons_zero, List.set_cons_succ]
            refine wpAnyS_take (i := 26) (v := ?_) rfl (by kernel_rfl) (fun _ _ _ h => h) (by rfl) hSc ?_ ?_
            rotate_left
            · intro w' hS'
              (try dsimp only at hS')
              go_simp <;> with_reducible rfl
            try simp only [Act.put, List.setIfInBounds_toArray, List.set_cons_zero, List.set_cons_succ]
            refine wpAnyS_take (i := 27) (v := ?_) rfl (by kernel_rfl) (fun _ _ _ h => h) (by rfl) hSc ?_ ?_
            rotate_left
            · intro w' hS'
              have cm0 := m0 _ hS'
              have cm1 := m1 _ hS'
              have cm2 := m2 _ hS'
              have cm3 := m3 _ hS'
              have cm4 := m4 _ hS'
              go_simp <;> with_reducible rfl
            try simp only [Act.put, List.setIfInBounds_toArray, List.set_cons_zero, List.set_cons_succ]
            refine wpAnyS_take (i := 29) (v := ?_) rfl (by kernel_rfl) (fun _ _ _ h => h) (by rfl) hSc ?_ ?_
            rotate_left
            · intro w' hS'
              (try dsimp only at hS')
              go_simp <;> with_reducible rfl
            try simp only [Act.put, List.setIfInBounds_toArray, List.set_cons_zero, List.set_cons_succ]
            refine wpAnyS_take (i := 30) (v := ?_) rfl (by kernel_rfl) (fun _ _ _ h => h) (by rfl) hSc ?_ ?_
            rotate_left
            · intro w' hS'
              (try dsimp only at hS')
              go_simp <;> with_reducible rfl
            try simp only [Act.put, List.setIfInBounds_toArray, List.set_cons_zero, List.set_cons_succ]
            refine wpAnyS_take (i := 31) (v := ?_) rfl (by kernel_rfl) (fun _ _ _ h => h) (by rfl) hSc ?_ ?_
            rotate_left
            · intro w' hS'
              (try dsimp only at hS')
              go_simp <;> with_reducible rfl
            try simp only [Act.put, List.setIfInBounds_toArray, List.set_cons_zero, List.set_cons_succ]
            refine wpAnyS_take (i := 32) (v := ?_) rfl (by kernel_rfl) (fun _ _ _ h => h) (by rfl) hSc ?_ ?_
            rotate_left
            · intro w' hS'
              have cm0 := m0 _ hS'
              have cm1 := m1 _ hS'
              have cm2 := m2 _ hS'
              have cm3 := m3 _ hS'
              have cm4 := m4 _ hS'
              go_simp <;> with_reducible rfl
            try simp only [Act.put, List.setIfInBounds_toArray, List.set_cons_zero, List.set_cons_succ]
            refine wpAnyS_take (i := 33) (v := ?_) rfl (by kernel_rfl) (fun _ _ _ h => h) (by rfl) hSc ?_ ?_
            rotate_left
            · intro w' hS'
              (try dsimp only at hS')
              go_simp <;> with_reducible rfl
            try simp only [Act.put, List.setIfInBounds_toArray, List.set_cons_zero, List.set_cons_succ]
            refine wpAnyS_take (i := 34) (v := ?_) rfl (by kernel_rfl) (fun _ _ _ h => h) (by rfl) hSc ?_ ?_
            rotate_left
            · intro w' hS'
              (try dsimp only at hS')
              go_simp <;> with_reducible rfl
            try simp only [Act.put, List.setIfInBounds_toArray, List.set_cons_zero, List.set_cons_succ]
            refine wpAnyS_take (i := 35) (v := ?_) rfl (by kernel_rfl) (fun _ _ _ h => h) (by rfl) hSc ?_ ?_
            rotate_left
            · intro w' hS'
              (try dsimp only at hS')
              go_simp <;> with_reducible rfl
            try simp only [Act.put, List.setIfInBounds_toArray, List.set_cons_zero, List.set_cons_succ]
            refine wpAnyS_take (i := 36) (v := ?_) rfl (by kernel_rfl) (fun _ _ _ h => h) (by rfl) hSc ?_ ?_
            rotate_left
            · intro w' hS'
              have ck0 := k0 _ hS'
              have ck1 := k1 _ hS'
              have ck2 := k2 _ hS'
              have ck3 := k3 _ hS'
              have ck4 := k4 _ hS'
              go_simp <;> with_reducible rfl
            try simp only [Act.put, List.setIfInBounds_toArray, List.set_cons_zero, List.set_cons_succ]
            refine wpAnyS_one (i := 28) rfl (by kernel_rfl) (by decide) (by rfl) fun K hK => ?_
            go_simp
            refine (conflict_any x y _).mono ?_
            rintro e w5 ⟨rfl, hf5⟩
            rw [HC.out]
            have hSd : KeptN wi w5 := Fr.trans0 hSc hf5
            refine hK.out _ _ hSd ?_
            clear hK K hSc hf5
            try simp only [Act.put, List.setIfInBounds_toArray, List.set_cons_zero, List.set_cons_succ]
            refine wpAnyS_one (i := 37) rfl (by kernel_rfl) (by decide) (by rfl) fun K hK => ?_
            go_simp
            refine (conflict_any y x _).mono ?_
            rintro e w6 ⟨rfl, hf6⟩
            rw [conf_turn, HC.out]
            have hSe : KeptN wi w6 := Fr.trans0 hSd hf6
            refine hK.out _ _ hSe ?_
            clear hK K hSd hf6
            try simp only [Act.put, List.setIfInBounds_toArray, List.set_cons_zero, List.set_cons_succ]
            refine wpAnyS_take (i := 38) (v := ?_) rfl (by kernel_rfl) (fun _ _ _ h => h) (by rfl) hSe ?_ ?_
            rotate_left
            · intro w' hS'
              (try dsimp only at hS')
              go_simp <;> with_reducible rfl
            try simp only [Act.put, List.setIfInBounds_toArray, List.set_cons_zero, List.set_cons_succ]
            refine wpAnyS_last (i := 39) rfl (by kernel_rfl) (by decide) (by kernel_rfl) (by rfl) fun K hK => ?_
            go_simp
            refine hK.out _ _ ?_
            have Hf6 := Lib.hid (Fr.trans0 Hf.out hSe)
            clear hK K hSe k0 k1 k2 k3 k4 m0 m1 m2 m3 m4 n0 n1 n2 n3 n4 r0 r1 r2 r3 r4
            go_wp2_with fail
            go_roundw
            case rel => exact ⟨k + 1, by omega, by go_num, Hf6.out⟩
            case measure => simp [intOf]; omega
        · obtain rfl : k = ts.length := by omega
          go_wp2_with fail
          go_roundw
          case rel => exact ⟨i + 1, by omega, by go_num, Hf.out⟩
          case measure => simp [intOf]; omega
    · obtain rfl : i = ts.length := by omega
      go_wp2_with fail
      go_loopw [9, 10, 11, 12, 13, 14, 15, 16] (fun vn _ _ _ _ _ _ _ wr => ∃ n : Nat, n ≤ 2 ∧ vn = .int .i64 n ∧ Fr w2 wr Nil) (fun vn _ _ _ _ _ _ _ _ => 2 - (intOf vn).toNat)
      case atStart => exact ⟨0, by omega, rfl, Hf.out⟩
      case round =>
        clear Hf
        obtain ⟨n, hn, rfl, hf⟩ := hrel
        have Hf := Lib.hid hf
        obtain ⟨wn, rfl⟩ : ∃ wn : World, wn = wr := ⟨_, rfl⟩
        clear hf
        by_cases hln : n < 2
        · go_wp2_with fail
          refine (fin_any la lcap l _ (SlAt.fr0 HL2.out Hf.out) (by omega)).mono ?_
          rintro e w3 ⟨xs, xa, xcap, hfin, rfl, hox, hnx, hf3⟩
          have HFIN := Lib.hid hfin
          have hxl := hfin.2.2
          have HOX := Lib.hid hox
          have HNX : Hid (NewFrom w2.heap.size (.slice xa xs.length xcap)) := fun j hj => Nat.le_trans Hf.out.size (hnx j hj)
          have HF3 := Lib.hid (Hf.out.trans0 hf3)
          clear hfin hox hnx hf3
          go_wp2_with fail
          refine (rfin_any ba bcap l _ (SlAt.fr0 HB.out HF3.out) (by omega)).mono ?_
          rintro e w4 ⟨ys, ya, ycap, hfin2, rfl, hoy, hny, hf4⟩
          obtain rfl := FinR.same HFIN.out hfin2
          have HOX4 := Lib.hid (HOX.out.fr hf4 fun _ _ h => h)
          have HOY4 := Lib.hid hoy
          have HF4 := Lib.hid (HF3.out.trans0 hf4)
          have hnn : ((xs.length : Int) != (xs.length : Int)) = false := by simp
          clear hfin2 hoy hny hf4 HOX HF3 Hf
          go_wp2_with fail
          go_loopw [12] (fun vi wr => ∃ i : Nat, i ≤ xs.length ∧ vi = .int .i64 i ∧ Fr w4 wr Nil) (fun vi _ => xs.length - (intOf vi).toNat)
          case atStart => exact ⟨0, by omega, rfl, Fr.refl _ _⟩
          case round =>
            obtain ⟨i, hi, rfl, hf⟩ := hrel
            have Hf := Lib.hid hf
            obtain ⟨wi, rfl⟩ : ∃ wi : World, wi = wr := ⟨_, rfl⟩
            clear hf
            by_cases hlt : i < xs.length
            · obtain ⟨xb, xc, hxv, _⟩ := HOX4.out.form (by omega)
              simp only [Value.slice.injEq, true_and] at hxv
              obtain ⟨rfl, rfl⟩ := hxv
              obtain ⟨yb, yc, hyv, _⟩ := HOY4.out.form (by omega)
              simp only [Value.slice.injEq, true_and] at hyv
              obtain ⟨rfl, rfl⟩ := hyv
              have q0 := (HOX4.out.fr Hf.out fun _ _ h => h).cell rfl i hlt
              have q1 := (HOY4.out.fr Hf.out fun _ _ h => h).cell rfl i hlt
              generalize xs.getD i 0 = x at q0 q1
              have hil : (i : Int) < (xs.length : Int) := by omega
              have hxx : (x != x) = false := by simp
              go_wp2_with fail
              go_quiet (fail)
              go_wp2_with fail
              go_roundw
              case rel => exact ⟨i + 1, by omega, by go_num, Hf.out.drewN _⟩
              case measure => simp [intOf]; omega
            · obtain rfl : i = xs.length := by omega
              have HOXi := Lib.hid (HOX4.out.fr Hf.out fun _ _ h => h)
              have HOYi := Lib.hid (HOY4.out.fr Hf.out fun _ _ h => h)
              have HFi := Lib.hid (HF4.out.trans0 Hf.out)
              clear HOX4 HOY4 HF4 Hf
              go_wp2_with fail
              refine (graph_in _ ta tcap xs ts _ HOXi.out.at (by omega) HFIN.out.nodup HFIN.out.wf (SlAt.fr0 HT2.out HFi.out) (by omega) htc).mono ?_
              rintro e w5 hret
              have hat := graph_at (by omega) hret
              obtain ⟨gb, vs, rfl, hgb, hro, hrk, hf5⟩ := hret
              obtain ⟨gb', he, hat, _⟩ := hat
              cases he
              have HGB : Hid (w2.heap.size ≤ gb) := Nat.le_trans HFi.out.size hgb
              have HRO := Lib.hid hro
              have HRK := Lib.hid (hrk.weak HFi.out.size)
              have HAT := Lib.hid hat
              have HF5 := Lib.hid (HFi.out.trans0 hf5)
              have HOX5 := Lib.hid (HOXi.out.fr hf5 fun _ _ h => h)
              have HOY5 := Lib.hid (HOYi.out.fr hf5 fun _ _ h => h)
              clear hgb hro hrk hat hf5 HOXi HOYi HFi
              go_wp2_with fail
              refine (rgraph_any _ aa acap xs ts _ HOY5.out.at (by omega) (SlAt.fr0 HA.out HF5.out) (by omega)).mono ?_
              rintro e w6 hret
              have hat := graph_at (by omega) hret
              obtain ⟨hb, us, rfl, _, _, _, hf6⟩ := hret
              obtain ⟨hb', he, hat, _⟩ := hat
              cases he
              have HBT := Lib.hid hat
              have HAT6 := Lib.hid (HAT.out.fr0 hf6)
              have HRO6 := Lib.hid (hf6.own HRO.out fun _ _ h => h)
              have HRK6 := Lib.hid (HRK.out.fr hf6 fun _ _ _ h => h)
              have HF6 := Lib.hid (HF5.out.trans0 hf6)
              have HOX6 := Lib.hid (HOX5.out.fr hf6 fun _ _ h => h)
              clear hat hf6 HRO HRK HAT HF5 HOX5 HOY5
              go_wp2_with fail
              refine (sameg_any _ _ (graphW xs ts) _ HAT6.out HBT.out (by rw [graphW_len]; omega)).mono ?_
              rintro e w7 ⟨rfl, hf7⟩
              have HRO7 := Lib.hid (hf7.own HRO6.out fun _ _ h => h)
              have HRK7 := Lib.hid (HRK6.out.fr hf7 fun _ _ _ h => h)
              have HF7 := Lib.hid (HF6.out.trans0 hf7)
              have HOX7 := Lib.hid (HOX6.out.fr hf7 fun _ _ h => h)
              have HSM := Lib.hid (graphW_small (who := xs) (ts := ts) (by omega))
              have HGL := Lib.hid (graphW_len xs ts)
              generalize graphW xs ts = G0 at *
              clear hf7 HRO6 HRK6 HAT6 HBT HF6 HOX6
              go_wp2_with fail
              go_loopw [14, 15] (fun vi _ wr => ∃ (i : Nat) (vs : List Value) (G : List (List Int)), i ≤ xs.length ∧ vi = .int .i64 i ∧ wr.ownsRow 0 28 1 (.slice (some ⟨gb, 0, none⟩) xs.length xs.length) xs.length vs ∧ RowsOk wr w2.heap.size vs G ∧ Small G ∧ G.length = xs.length ∧ OwnInts wr 2 (.slice xa xs.length xcap) xs ∧ Fr w2 wr Nil) (fun vi _ _ => xs.length - (intOf vi).toNat)
              case atStart => exact ⟨0, vs, G0, by omega, rfl, HRO7.out, HRK7.out, HSM.out, HGL.out, HOX7.out, HF7.out⟩
              case round =>
                clear HRO7 HRK7 HSM HGL HOX7 HF7
                obtain ⟨i, vs, G, hi, rfl, hro, hrk, hsm, hgl, hox, hf⟩ := hrel
                have HRO := Lib.hid hro
                have HRK := Lib.hid hrk
                have HSM := Lib.hid hsm
                have HGL := Lib.hid hgl
                have HOX := Lib.hid hox
                have Hf := Lib.hid hf
                obtain ⟨wi, rfl⟩ : ∃ wi : World, wi = wr := ⟨_, rfl⟩
                clear hro hrk hsm hgl hox hf
                by_cases hlt : i < xs.length
                · obtain ⟨ys0, hgi⟩ : ∃ ys0, G[i]? = some ys0 := ⟨_, List.getElem?_eq_getElem (show i < G.length by rw [HGL.out]; exact hlt)⟩
                  have hml := HSM.out ys0 (List.mem_of_getElem? hgi)
                  obtain ⟨m, hm⟩ : ∃ m, m = ys0.length := ⟨_, rfl⟩
                  rw [← hm] at hml
                  have HGI := Lib.hid hgi
                  have HM := Lib.hid hm
                  have hil : (i : Int) < (xs.length : Int) := by omega
                  clear hgi hm
                  go_wp2_with fail
                  go_loopw [15] (fun vk wr => ∃ (k : Nat) (vs : List Value) (G : List (List Int)) (ys : List Int), k ≤ m ∧ vk = .int .i64 k ∧ G[i]? = some ys ∧ ys.length = m ∧ wr.ownsRow 0 28 1 (.slice (some ⟨gb, 0, none⟩) xs.length xs.length) xs.length vs ∧ RowsOk wr w2.heap.size vs G ∧ Small G ∧ G.length = xs.length ∧ OwnInts wr 2 (.slice xa xs.length xcap) xs ∧ Fr w2 wr Nil) (fun vk _ => m - (intOf vk).toNat)
                  case atStart => exact ⟨0, vs, G, ys0, by omega, rfl, HGI.out, HM.out.symm, HRO.out, HRK.out, HSM.out, HGL.out, HOX.out, Hf.out⟩
                  case round =>
                    clear HRO HRK HSM HGL HOX Hf HGI HM
                    obtain ⟨k, vs, G, ys, hk, rfl, hgi, hym, hro, hrk, hsm, hgl, hox, hf⟩ := hrel
                    obtain ⟨u, hu, hux, hun⟩ := hrk.2.1 i _ hgi
                    have q4 := World.ownsRow.cellAt hro i (by omega)
                    rw [hu] at q4
                    have HGI := Lib.hid hgi
                    have HRO := Lib.hid hro
                    have HRK := Lib.hid hrk
                    have HSM := Lib.hid hsm
                    have HGL := Lib.hid hgl
                    have HOX := Lib.hid hox
                    have Hf := Lib.hid hf
                    have HU := Lib.hid hu
                    have HUX := Lib.hid hux
                    have HUN := Lib.hid hun
                    obtain ⟨wk, rfl⟩ : ∃ wk : World, wk = wr := ⟨_, rfl⟩
                    clear hgi hro hrk hsm hgl hox hf hu hux hun
                    subst hym
                    by_cases hlk : k < ys.length
                    · obtain ⟨ub, ucap, huv, _⟩ := HUX.out.form (by omega)
                      subst huv
                      have y0 := HUX.out.cell rfl k hlk
                      have y1 := HUX.out.free rfl k
                      have HPK := Lib.hid (rows_poke (k := k) (-1) Hf.out HRO.out HRK.out HU.out HUX.out HUN.out)
                      have hkl : (k : Int) < (ys.length : Int) := by omega
                      have HIG : Hid (i < G.length) := by
                        have : i < G.length := by rw [HGL.out]; exact hlt
                        exact this
                      go_wp2_with fail
                      go_roundw
                      case rel => exact ⟨k + 1, vs, G.set i (ys.set k (-1)), ys.set k (-1), by omega, by go_num, List.getElem?_set_self HIG.out, by simp, HPK.out.1, HPK.out.2.1, HSM.out.set (by simp; omega), by rw [List.length_set]; exact HGL.out, HPK.out.2.2.2 _ _ HOX.out, HPK.out.2.2.1⟩
                      case measure => simp [intOf]; omega
                    · obtain rfl : k = ys.length := by omega
                      obtain ⟨ua, ucap, rfl⟩ := HUX.out.shape
                      go_wp2_with fail
                      go_roundw
                      case rel => exact ⟨i + 1, vs, G, by omega, by go_num, HRO.out, HRK.out, HSM.out, HGL.out, HOX.out, Hf.out⟩
                      case measure => simp [intOf]; omega
                · obtain rfl : i = xs.length := by omega
                  go_wp2_with fail
                  go_loopw [16] (fun vk wr => ∃ (k : Nat) (ys : List Int), k ≤ xs.length ∧ vk = .int .i64 k ∧ ys.length = xs.length ∧ OwnInts wr 2 (.slice xa ys.length xcap) ys ∧ Fr w2 wr Nil) (fun vk _ => xs.length - (intOf vk).toNat)
                  case atStart => exact ⟨0, xs, by omega, rfl, rfl, HOX.out, Hf.out⟩
                  case round =>
                    clear HRO HRK HSM HGL HOX Hf
                    obtain ⟨k, ys, hk, rfl, hyl, hox, hf⟩ := hrel
                    have HOX := Lib.hid hox
                    have Hf := Lib.hid hf
                    have HYL := Lib.hid hyl
                    obtain ⟨wk, rfl⟩ : ∃ wk : World, wk = wr := ⟨_, rfl⟩
                    clear hox hf hyl
                    by_cases hlk : k < xs.length
                    · obtain ⟨xb, xc, hxv, _⟩ := HOX.out.form (by rw [HYL.out]; omega)
                      simp only [Value.slice.injEq, true_and] at hxv
                      obtain ⟨rfl, rfl⟩ := hxv
                      have y0 := HOX.out.cell rfl k (by rw [HYL.out]; exact hlk)
                      have y1 := HOX.out.free rfl k
                      have HST : Hid (OwnInts (wk.setCell ⟨xb, k, none⟩ (.int .i64 (-1))) 2 (.slice (some ⟨xb, 0, none⟩) (ys.set k (-1)).length xcap) (ys.set k (-1))) := by
                        have := (World.ownsRow.stored HOX.out k (.int .i64 (-1))).1
                        unfold OwnInts
                        rw [List.length_set, List.map_set]
                        exact this
                      have HFS : Hid (Fr w2 (wk.setCell ⟨xb, k, none⟩ (.int .i64 (-1))) Nil) := Hf.out.setCell (p := ⟨xb, k, none⟩) (fun h => absurd h (by have := HNX.out xb rfl; simp; omega)) _
                      have hkl : (k : Int) < (xs.length : Int) := by omega
                      go_wp2_with fail
                      go_roundw
                      case rel => exact ⟨k + 1, ys.set k (-1), by omega, by go_num, by rw [List.length_set]; exact HYL.out, HST.out, HFS.out⟩
                      case measure => simp [intOf]; omega
                    · obtain rfl : k = xs.length := by omega
                      go_wp2_with fail
                      go_roundw
                      case rel => exact ⟨n + 1, by omega, by go_num, Hf.out⟩
                      case measure => simp [intOf]; omega
        · obtain rfl : n = 2 := by omega
          go_wp2_with fail
          refine (dirty_any la lcap l ta tcap ts _ (SlAt.fr0 HL2.out Hf.out) (by omega) (SlAt.fr0 HT2.out Hf.out) (by omega) htc).mono ?_
          rintro e w3 ⟨rfl, hf3⟩
          have HF3 := Lib.hid (Hf.out.trans0 hf3)
          clear hf3
          go_wp2_with fail
          refine (rdirty_any ba bcap l aa acap ts _ (SlAt.fr0 HB.out HF3.out) (by omega) (SlAt.fr0 HA.out HF3.out) (by omega)).mono ?_
          rintro e w4 ⟨rfl, hf4⟩
          have HF4 := Lib.hid (HF3.out.trans0 hf4)
          generalize dirtyB l ts = db
          have hdd : (db == db) = true := by simp
          clear hf4
          go_wp2_with fail
          refine (works_any _).mono ?_
          rintro e w9 ⟨rfl, hf9⟩
          have HF9 := Lib.hid (HF2.out.trans0 (HF4.out.trans0 hf9))
          clear hf9
          go_wp2_with fail
          go_ret
          exact ⟨rfl, HF9.out⟩

section
variable (lv tv : Value) (l : List AnsD) (ts : List TouchD) (w : World)
set_option maxRecDepth 100000 in
set_option maxHeartbeats 1000000 in
theorem graphs_out (hl : AsAt w lv l) (ht : TsAt w tv ts) (h : 30 < l.length ∨ l.length ≤ 30 ∧ 60 < ts.length) :
    Calls Try.prog 6 #[lv, tv] w fun e w' => e = .returned (.bool true) ∧ Fr w w' Nil := by
  obtain ⟨la, lcap, rfl⟩ := hl.shape
  obtain ⟨ta, tcap, rfl, htc⟩ := ht.shape
  have hlm := hl.2.2
  have htm := ht.2.2
  clear hl ht htc
  rcases h with h1 | ⟨h1, h2⟩
  all_goals
    go_enter Try.func6, Try.ntmps6
    go_wp2_with fail
    refine (works_any _).mono ?_
    rintro e w9 ⟨rfl, hf9⟩
    have HF9 := Lib.hid hf9
    clear hf9
    go_wp2_with fail
    go_ret
    exact ⟨rfl, HF9.out⟩
theorem graphs_any (hl : AsAt w lv l) (ht : TsAt w tv ts) :
    Calls Try.prog 6 #[lv, tv] w fun e w' => e = .returned (.bool true) ∧ Fr w w' Nil := by
  by_cases h : 30 < l.length ∨ l.length ≤ 30 ∧ 60 < ts.length
  · exact graphs_out lv tv l ts w hl ht h
  · exact graphs_main lv tv l ts w hl ht (by omega) (by omega)
end
end Go.Proofs.Ytegejcmihojhbaa
