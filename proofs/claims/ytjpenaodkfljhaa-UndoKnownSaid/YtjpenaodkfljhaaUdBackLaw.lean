/-
  The walk of UndoBack: it answers true.
  No condition.
-/
import Derived.Test.YtjpenaodkfljhaaUdInv
import Derived.Test.YtjpenaodkfljhaaQTail
import Derived.Test.YtjpenaodkfljhaaSink
namespace Go.Proofs.Ytjpenaodkfljhaa
open Go Go.RowKit

section
variable (va vb : Value) (la lb : List UCall) (w : World)
set_option maxRecDepth 100000 in
set_option maxHeartbeats 1000000 in
theorem backlaw_early (ha : UCallsAt w va la) (hb : UCallsAt w vb lb) (hE : 40 < la.length ∨ (la.length ≤ 40 ∧ 40 < lb.length)) :
    Calls Try.prog 6 #[va, vb] w fun e w' => e = .returned (.bool true) ∧ Fr w w' Nil := by
  obtain ⟨aa, ca, rfl, hca⟩ := ha.shape
  obtain ⟨ab, cb, rfl, hcb⟩ := hb.shape
  clear ha hb
  rcases hE with h1 | ⟨h1, h2⟩
  · have h1' : (40 : Int) < (la.length : Int) := by omega
    go_enter Try.func6, Try.ntmps6
    go_wp2_with fail
    refine (works_any _).mono ?_
    rintro e w9 ⟨rfl, hf⟩
    have HF := Lib.hid hf
    clear hf
    go_wp2_with fail
    go_ret
    exact ⟨rfl, HF.out⟩
  · have h1' : ¬ (40 : Int) < (la.length : Int) := by omega
    have h2' : (40 : Int) < (lb.length : Int) := by omega
    go_enter Try.func6, Try.ntmps6
    go_wp2_with fail
    refine (works_any _).mono ?_
    rintro e w9 ⟨rfl, hf⟩
    have HF := Lib.hid hf
    clear hf
    go_wp2_with fail
    go_ret
    exact ⟨rfl, HF.out⟩
set_option maxRecDepth 100000 in
set_option maxHeartbeats 4000000 in
theorem backlaw_main (ha : UCallsAt w va la) (hb : UCallsAt w vb lb) (h1 : la.length ≤ 40) (h2 : lb.length ≤ 40) :
    Calls Try.prog 6 #[va, vb] w fun e w' => e = .returned (.bool true) ∧ Fr w w' Nil := by
  obtain ⟨aa, ca, rfl, hca⟩ := ha.shape
  obtain ⟨ab, cb, rfl, hcb⟩ := hb.shape
  have HA := Lib.hid ha
  have HB := Lib.hid hb
  have h1' : ¬ (40 : Int) < (la.length : Int) := by omega
  have h2' : ¬ (40 : Int) < (lb.length : Int) := by omega
  clear ha hb
  go_enter Try.func6, Try.ntmps6
  go_wp2_with fail
  refine (twotabs_any (Lies.nil (Fr.refl w Nil))).mono ?_
  rintro e w1 ⟨rb, qb, rfl, h⟩
  have HL := Lib.hid h
  clear h
  go_wp2_with fail
  go_loopw [7] (fun vi wr => ∃ (k : Nat) (M : List MTab), k ≤ la.length ∧ vi = .int .i64 k ∧ Ok k M ∧ Lies w wr [rowsT rb M, refT qb [2, 1] []]) (fun vi _ => la.length - (intOf vi).toNat)
  case atStart => exact ⟨0, tabs0, by omega, rfl, ok_tabs0, HL.out⟩
  case round =>
    clear HL
    obtain ⟨k, M, hk, rfl, hm, h⟩ := hrel
    have HM := Lib.hid hm
    have HL := Lib.hid h
    obtain ⟨wo, rfl⟩ : ∃ wo : World, wo = wr := ⟨_, rfl⟩
    clear hm h
    by_cases hlt : k < la.length
    · obtain ⟨tb, toff, tcap2, htv, htc⟩ := (HA.out.fr0 HL.out.fr).form (by omega)
      simp only [Value.slice.injEq, true_and] at htv
      obtain ⟨rfl, rfl⟩ := htv
      have hgt := List.getElem?_eq_getElem hlt
      generalize la[k] = t at hgt
      obtain ⟨p0, p1, p2, p3, p4⟩ := ucall_cells htc hgt
      have hki : (k : Int) < (la.length : Int) := by omega
      obtain ⟨tk, tw, tt, ty, tn, tok, tow, toy⟩ := t
      simp only at p0 p1 p2 p3 p4
      clear htc hgt p0 p1
      have k2 := KeptF.cell p2
      have k3 := KeptF.cell p3
      have k4 := KeptF.cell p4
      go_wp2_with fail
      refine wp_region_sink 22 (KeptF wo) (by kernel_rfl) ?_
      have hSa : KeptF wo wo.drew := KeptF.start _
      refine wpAnyS_take (i := 0) (v := ?_) rfl (by kernel_rfl) (fun _ _ _ h => h) (by rfl) hSa ?_ ?_
      rotate_left
      · intro w' hS'
        (try dsimp only at hS')
        go_simp <;> with_reducible rfl
      try simp only [Act.put, List.setIfInBounds_toArray, List.set_cons_zero, List.set_cons_succ]
      refine wpAnyS_take (i := 1) (v := ?_) rfl (by kernel_rfl) (fun _ _ _ h => h) (by rfl) hSa ?_ ?_
      rotate_left
      · intro w' hS'
        (try dsimp only at hS')
        go_simp <;> with_reducible rfl
      try simp only [Act.put, List.setIfInBounds_toArray, List.set_cons_zero, List.set_cons_succ]
      refine wpAnyS_take (i := 2) (v := ?_) rfl (by kernel_rfl) (fun _ _ _ h => h) (by rfl) hSa ?_ ?_
      rotate_left
      · intro w' hS'
        (try dsimp only at hS')
        go_simp <;> with_reducible rfl
      try simp only [Act.put, List.setIfInBounds_toArray, List.set_cons_zero, List.set_cons_succ]
      refine wpAnyS_take (i := 3) (v := ?_) rfl (by kernel_rfl) (fun _ _ _ h => h) (by rfl) hSa ?_ ?_
      rotate_left
      · intro w' hS'
        (try dsimp only at hS')
        go_simp <;> with_reducible rfl
      try simp only [Act.put, List.setIfInBounds_toArray, List.set_cons_zero, List.set_cons_succ]
      refine wpAnyS_take (i := 4) (v := ?_) rfl (by kernel_rfl) (fun _ _ _ h => h) (by rfl) hSa ?_ ?_
      rotate_left
      · intro w' hS'
        (try dsimp only at hS')
        go_simp <;> with_reducible rfl
      try simp only [Act.put, List.setIfInBounds_toArray, List.set_cons_zero, List.set_cons_succ]
      refine wpAnyS_take (i := 5) (v := ?_) rfl (by kernel_rfl) (fun _ _ _ h => h) (by rfl) hSa ?_ ?_
      rotate_left
      · intro w' hS'
        have ck2 := k2 _ hS'
        go_simp <;> with_reducible rfl
      try simp only [Act.put, List.setIfInBounds_toArray, List.set_cons_zero, List.set_cons_succ]
      refine wpAnyS_take (i := 6) (v := ?_) rfl (by kernel_rfl) (fun _ _ _ h => h) (by rfl) hSa ?_ ?_
      rotate_left
      · intro w' hS'
        (try dsimp only at hS')
        go_simp <;> with_reducible rfl
      try simp only [Act.put, List.setIfInBounds_toArray, List.set_cons_zero, List.set_cons_succ]
      refine wpAnyS_take (i := 7) (v := ?_) rfl (by kernel_rfl) (fun _ _ _ h => h) (by rfl) hSa ?_ ?_
      rotate_left
      · intro w' hS'
        (try dsimp only at hS')
        go_simp <;> with_reducible rfl
      try simp only [Act.put, List.setIfInBounds_toArray, List.set_cons_zero, List.set_cons_succ]
      refine wpAnyS_take (i := 8) (v := ?_) rfl (by kernel_rfl) (fun _ _ _ h => h) (by rfl) hSa ?_ ?_
      rotate_left
      · intro w' hS'
        (try dsimp only at hS')
        go_simp <;> with_reducible rfl
      try simp only [Act.put, List.setIfInBounds_toArray, List.set_cons_zero, List.set_cons_succ]
      refine wpAnyS_take (i := 9) (v := ?_) rfl (by kernel_rfl) (fun _ _ _ h => h) (by rfl) hSa ?_ ?_
      rotate_left
      · intro w' hS'
        (try dsimp only at hS')
        go_simp <;> with_reducible rfl
      try simp only [Act.put, List.setIfInBounds_toArray, List.set_cons_zero, List.set_cons_succ]
      refine wpAnyS_take (i := 10) (v := ?_) rfl (by kernel_rfl) (fun _ _ _ h => h) (by rfl) hSa ?_ ?_
      rotate_left
      · intro w' hS'
        have ck3 := k3 _ hS'
        go_simp <;> with_reducible rfl
      try simp only [Act.put, List.setIfInBounds_toArray, List.set_cons_zero, List.set_cons_succ]
      refine wpAnyS_take (i := 11) (v := ?_) rfl (by kernel_rfl) (fun _ _ _ h => h) (by rfl) hSa ?_ ?_
      rotate_left
      · intro w' hS'
        (try dsimp only at hS')
        go_simp <;> with_reducible rfl
      try simp only [Act.put, List.setIfInBounds_toArray, List.set_cons_zero, List.set_cons_succ]
      refine wpAnyS_take (i := 12) (v := ?_) rfl (by kernel_rfl) (fun _ _ _ h => h) (by rfl) hSa ?_ ?_
      rotate_left
      · intro w' hS'
        (try dsimp only at hS')
        go_simp <;> with_reducible rfl
      try simp only [Act.put, List.setIfInBounds_toArray, List.set_cons_zero, List.set_cons_succ]
      refine wpAnyS_take (i := 13) (v := ?_) rfl (by kernel_rfl) (fun _ _ _ h => h) (by rfl) hSa ?_ ?_
      rotate_left
      · intro w' hS'
        (try dsimp only at hS')
        go_simp <;> with_reducible rfl
      try simp only [Act.put, List.setIfInBounds_toArray, List.set_cons_zero, List.set_cons_succ]
      refine wpAnyS_take (i := 14) (v := ?_) rfl (by kernel_rfl) (fun _ _ _ h => h) (by rfl) hSa ?_ ?_
      rotate_left
      · intro w' hS'
        (try dsimp only at hS')
        go_simp <;> with_reducible rfl
      try simp only [Act.put, List.setIfInBounds_toArray, List.set_cons_zero, List.set_cons_succ]
      refine wpAnyS_take (i := 15) (v := ?_) rfl (by kernel_rfl) (fun _ _ _ h => h) (by rfl) hSa ?_ ?_
      rotate_left
      · intro w' hS'
        have ck2 := k2 _ hS'
        go_simp <;> with_reducible rfl
      try simp only [Act.put, List.setIfInBounds_toArray, List.set_cons_zero, List.set_cons_succ]
      refine wpAnyS_take (i := 16) (v := ?_) rfl (by kernel_rfl) (fun _ _ _ h => h) (by rfl) hSa ?_ ?_
      rotate_left
      · intro w' hS'
        (try dsimp only at hS')
        go_simp <;> with_reducible rfl
      try simp only [Act.put, List.setIfInBounds_toArray, List.set_cons_zero, List.set_cons_succ]
      refine wpAnyS_take (i := 17) (v := ?_) rfl (by kernel_rfl) (fun _ _ _ h => h) (by rfl) hSa ?_ ?_
      rotate_left
      · intro w' hS'
        (try dsimp only at hS')
        go_simp <;> with_reducible rfl
      try simp only [Act.put, List.setIfInBounds_toArray, List.set_cons_zero, List.set_cons_succ]
      refine wpAnyS_take (i := 18) (v := ?_) rfl (by kernel_rfl) (fun _ _ _ h => h) (by rfl) hSa ?_ ?_
      rotate_left
      · intro w' hS'
        (try dsimp only at hS')
        go_simp <;> with_reducible rfl
      try simp only [Act.put, List.setIfInBounds_toArray, List.set_cons_zero, List.set_cons_succ]
      refine wpAnyS_take (i := 19) (v := ?_) rfl (by kernel_rfl) (fun _ _ _ h => h) (by rfl) hSa ?_ ?_
      rotate_left
      · intro w' hS'
        (try dsimp only at hS')
        go_simp <;> with_reducible rfl
      try simp only [Act.put, List.setIfInBounds_toArray, List.set_cons_zero, List.set_cons_succ]
      refine wpAnyS_take (i := 20) (v := ?_) rfl (by kernel_rfl) (fun _ _ _ h => h) (by rfl) hSa ?_ ?_
      rotate_left
      · intro w' hS'
        have ck4 := k4 _ hS'
        go_simp <;> with_reducible rfl
      try simp only [Act.put, List.setIfInBounds_toArray, List.set_cons_zero, List.set_cons_succ]
      refine wpAnyS_one (i := 21) rfl (by kernel_rfl) (by decide) (by rfl) fun K hK => ?_
      go_simp
      refine (cols_of tt tn _).mono ?_
      rintro e w6 ⟨v6, rfl, hv6, hf6⟩
      obtain ⟨a6, c6, rfl⟩ := hv6.shape
      have hSb := hSa.next hf6
      refine hK.out _ _ hSb ?_
      clear hK K
      try simp only [Act.put, List.setIfInBounds_toArray, List.set_cons_zero, List.set_cons_succ]
      refine wpAnyS_last (i := 22) rfl (by kernel_rfl) (by decide) (by kernel_rfl) (by rfl) fun K hK => ?_
      go_simp
      refine (st_put (HL.out.fr0 hSb.fr) 0 rfl tt ty _ (colsU tt tn) HM.out.good hv6 (by unfold colsU; split <;> simp)).mono ?_
      rintro e w7 ⟨rfl, h⟩
      refine hK.out _ _ ?_
      clear hK K
      have HL7 := Lib.hid h
      clear h hv6 hf6 hSa hSb k2 k3 k4
      go_wp2_with fail
      go_roundw
      case rel => exact ⟨k + 1, (mput M tt ty (colsU tt tn)).1, by omega, by go_num, HM.out.put (by omega) _ _ _, HL7.out⟩
      case measure => simp [intOf]; omega
    · obtain rfl : k = la.length := by omega
      go_wp2_with fail
      refine (st_new HL.out 100).mono ?_
      rintro e w2 ⟨lb', rfl, h⟩
      have HL2 := Lib.hid h
      clear h HL
      go_wp2_with fail
      refine (st_copy HL2.out 0 rfl HM.out.good).mono ?_
      rintro e w3 ⟨cb', rfl, h⟩
      have HL3 : Hid (Lies w w3 [rowsT rb M, refT qb [2, 1] [], logT lb' 100 [], rowsT cb' M]) := h
      clear h HL2
      go_wp2_with fail
      go_loopw [10, 11] (fun vn vi wr => ∃ (i : Nat) (M1 : List MTab) (L : List (Int × Ent)), i ≤ lb.length ∧ vi = .int .i64 i ∧ vn = .int .i64 (L.length : Nat) ∧ L.length ≤ i ∧ InvB (la.length + i) M M1 L ∧ Lies w wr [rowsT rb M1, refT qb [2, 1] [], logT lb' 100 L, rowsT cb' M]) (fun _ vi _ => lb.length - (intOf vi).toNat)
      case atStart => exact ⟨0, M, [], by omega, rfl, rfl, by simp, InvB.start HM.out, HL3.out⟩
      case round =>
        clear HL3
        obtain ⟨i, M1, L, hi, rfl, rfl, hLi, hinv, h⟩ := hrel
        have HI := Lib.hid hinv
        have HL := Lib.hid h
        have HLi := Lib.hid hLi
        obtain ⟨wo, rfl⟩ : ∃ wo : World, wo = wr := ⟨_, rfl⟩
        clear hinv h hLi
        by_cases hlt : i < lb.length
        · obtain ⟨tb, toff, tcap2, htv, htc⟩ := (HB.out.fr0 HL.out.fr).form (by omega)
          simp only [Value.slice.injEq, true_and] at htv
          obtain ⟨rfl, rfl⟩ := htv
          have hgt := List.getElem?_eq_getElem hlt
          generalize lb[i] = t at hgt
          obtain ⟨p0, p1, p2, p3, p4⟩ := ucall_cells htc hgt
          have hii : (i : Int) < (lb.length : Int) := by omega
          obtain ⟨tk, tw, tt, ty, tn, tok, tow, toy⟩ := t
          simp only at p0 p1 p2 p3 p4
          clear htc hgt
          have hLw : wrap64 ((L.length : Int) + 1) = (L.length : Int) + 1 := by have := HLi.out; unfold wrap64; omega
          have e2 := Int.tmod_eq_emod_of_nonneg (b := 2) tok.1
          have HLx := Lib.hid (HL.out.newBk 64 #[.int .u8 tk, .int .i64 tw, .int .i64 tt, .int .i64 ty, .int .i64 tn])
          have x2 := (HLx.out.bk 4 rfl).cell 2
          have x3 := (HLx.out.bk 4 rfl).cell 3
          simp only [List.getElem?_cons_zero, List.getElem?_cons_succ] at x2 x3
          go_wp2_with fail
          refine (st_note HLx.out 2 0 rfl rfl 1 tt ty HI.out.ok.good (by decide) (by have := HLi.out; omega)).mono ?_
          rintro e w4 ⟨he, h⟩
          rcases note_room HI.out.ok (L := L) (by have := HLi.out; omega) 1 tt ty with ⟨n0, n1, n2⟩ | ⟨n0, n1, n2⟩
          · rw [n1] at he
            rw [n2] at h
            subst he
            have HL4 : Hid (Lies w w4 [rowsT rb M1, refT qb [2, 1] [], logT lb' 100 L, rowsT cb' M, bkT wo.heap.size 64 [.int .u8 tk, .int .i64 tw, .int .i64 tt, .int .i64 ty, .int .i64 tn]]) := h
            clear h HLx x2 x3 n0 n1 n2
            go_wp2_with fail
            go_roundw
            case rel => exact ⟨i + 1, M1, L, by omega, by go_num, rfl, by have := HLi.out; omega, ⟨HI.out.ok.mono (by omega), HI.out.one, HI.out.chain⟩, HL4.out.take 4⟩
            case measure => simp [intOf]; omega
          · rw [n1] at he
            rw [n2] at h
            subst he
            have HL4 : Hid (Lies w w4 [rowsT rb M1, refT qb [2, 1] [], logT lb' 100 (L ++ [(1, entOf M1 tt ty)]), rowsT cb' M, bkT wo.heap.size 64 [.int .u8 tk, .int .i64 tw, .int .i64 tt, .int .i64 ty, .int .i64 tn]]) := h
            have HN := Lib.hid n0
            have y0 := (HL4.out.bk 4 rfl).cell 0
            have y2 := (HL4.out.bk 4 rfl).cell 2
            have y3 := (HL4.out.bk 4 rfl).cell 3
            have y4 := (HL4.out.bk 4 rfl).cell 4
            simp only [List.getElem?_cons_zero, List.getElem?_cons_succ] at y0 y2 y3 y4
            clear h HLx x2 x3 n0 n1 n2
            by_cases hk : tk.tmod 2 = 0
            · have k2 := KeptF.cell y2
              have k3 := KeptF.cell y3
              have k4 := KeptF.cell y4
              go_wp2_with fail
              refine wp_region_sink 10 (KeptF w4) (by kernel_rfl) ?_
              have hSa : KeptF w4 w4.drew := KeptF.start _
              refine wpAnyS_take (i := 0) (v := ?_) rfl (by kernel_rfl) (fun _ _ _ h => h) (by rfl) hSa ?_ ?_
              rotate_left
              · intro w' hS'
                (try dsimp only at hS')
                go_simp <;> with_reducible rfl
              try simp only [Act.put, List.setIfInBounds_toArray, List.set_cons_zero, List.set_cons_succ]
              refine wpAnyS_take (i := 1) (v := ?_) rfl (by kernel_rfl) (fun _ _ _ h => h) (by rfl) hSa ?_ ?_
              rotate_left
              · intro w' hS'
                (try dsimp only at hS')
                go_simp <;> with_reducible rfl
              try simp only [Act.put, List.setIfInBounds_toArray, List.set_cons_zero, List.set_cons_succ]
              refine wpAnyS_take (i := 2) (v := ?_) rfl (by kernel_rfl) (fun _ _ _ h => h) (by rfl) hSa ?_ ?_
              rotate_left
              · intro w' hS'
                have ck2 := k2 _ hS'
                go_simp <;> with_reducible rfl
              try simp only [Act.put, List.setIfInBounds_toArray, List.set_cons_zero, List.set_cons_succ]
              refine wpAnyS_take (i := 3) (v := ?_) rfl (by kernel_rfl) (fun _ _ _ h => h) (by rfl) hSa ?_ ?_
              rotate_left
              · intro w' hS'
                (try dsimp only at hS')
                go_simp <;> with_reducible rfl
              try simp only [Act.put, List.setIfInBounds_toArray, List.set_cons_zero, List.set_cons_succ]
              refine wpAnyS_take (i := 4) (v := ?_) rfl (by kernel_rfl) (fun _ _ _ h => h) (by rfl) hSa ?_ ?_
              rotate_left
              · intro w' hS'
                have ck3 := k3 _ hS'
                go_simp <;> with_reducible rfl
              try simp only [Act.put, List.setIfInBounds_toArray, List.set_cons_zero, List.set_cons_succ]
              refine wpAnyS_take (i := 5) (v := ?_) rfl (by kernel_rfl) (fun _ _ _ h => h) (by rfl) hSa ?_ ?_
              rotate_left
              · intro w' hS'
                (try dsimp only at hS')
                go_simp <;> with_reducible rfl
              try simp only [Act.put, List.setIfInBounds_toArray, List.set_cons_zero, List.set_cons_succ]
              refine wpAnyS_take (i := 6) (v := ?_) rfl (by kernel_rfl) (fun _ _ _ h => h) (by rfl) hSa ?_ ?_
              rotate_left
              · intro w' hS'
                have ck2 := k2 _ hS'
                go_simp <;> with_reducible rfl
              try simp only [Act.put, List.setIfInBounds_toArray, List.set_cons_zero, List.set_cons_succ]
              refine wpAnyS_take (i := 7) (v := ?_) rfl (by kernel_rfl) (fun _ _ _ h => h) (by rfl) hSa ?_ ?_
              rotate_left
              · intro w' hS'
                (try dsimp only at hS')
                go_simp <;> with_reducible rfl
              try simp only [Act.put, List.setIfInBounds_toArray, List.set_cons_zero, List.set_cons_succ]
              refine wpAnyS_take (i := 8) (v := ?_) rfl (by kernel_rfl) (fun _ _ _ h => h) (by rfl) hSa ?_ ?_
              rotate_left
              · intro w' hS'
                have ck4 := k4 _ hS'
                go_simp <;> with_reducible rfl
              try simp only [Act.put, List.setIfInBounds_toArray, List.set_cons_zero, List.set_cons_succ]
              refine wpAnyS_one (i := 9) rfl (by kernel_rfl) (by decide) (by rfl) fun K hK => ?_
              go_simp
              refine (cols_of tt tn _).mono ?_
              rintro e w6 ⟨v6, rfl, hv6, hf6⟩
              obtain ⟨a6, c6, rfl⟩ := hv6.shape
              have hSb := hSa.next hf6
              refine hK.out _ _ hSb ?_
              clear hK K
              try simp only [Act.put, List.setIfInBounds_toArray, List.set_cons_zero, List.set_cons_succ]
              refine wpAnyS_last (i := 10) rfl (by kernel_rfl) (by decide) (by kernel_rfl) (by rfl) fun K hK => ?_
              go_simp
              refine (st_put (HL4.out.fr0 hSb.fr) 0 rfl tt ty _ (colsU tt tn) HI.out.ok.good hv6 (by unfold colsU; split <;> simp)).mono ?_
              rintro e w7 ⟨rfl, h⟩
              refine hK.out _ _ ?_
              clear hK K
              clear hv6 hf6 hSa hSb k2 k3 k4
              have HI7 := Lib.hid (HI.out.note (by omega) true HN.out ty tn)
              have HL7 : Hid (Lies w w7 [rowsT rb (chg M1 true tt ty tn), refT qb [2, 1] [], logT lb' 100 (L ++ [(1, entOf M1 tt ty)]), rowsT cb' M, bkT wo.heap.size 64 [.int .u8 tk, .int .i64 tw, .int .i64 tt, .int .i64 ty, .int .i64 tn]]) := h
              clear h HL4 y0 y2 y3 y4
              go_wp2_with fail
              refine (st_clean HL7.out 2 0 rfl rfl HI7.out.ok.good HI7.out.ok.few (by have := HLi.out; simp; omega) HI7.out.wf).mono ?_
              rintro e w8 ⟨db, rfl, h⟩
              rw [HI7.out.clean] at h
              have HL8 := Lib.hid h
              clear h HL7
              go_wp2_with fail
              refine (st_same HL8.out 5 3 rfl rfl HM.out.good HM.out.good).mono ?_
              rintro e w9 ⟨he, h⟩
              rw [decide_eq_true rfl] at he
              subst he
              have HL9 := Lib.hid h
              clear h HL8
              go_wp2_with fail
              refine (st_ulen HL9.out 2 rfl 1 (by decide)).mono ?_
              rintro e w10 ⟨he, h⟩
              rw [HI7.out.len, List.length_append, List.length_singleton, Int.natCast_add, Int.natCast_one] at he
              subst he
              have HL10 := Lib.hid h
              clear h HL9
              go_wp2_with fail
              go_roundw
              case rel => exact ⟨i + 1, chg M1 true tt ty tn, L ++ [(1, entOf M1 tt ty)], by omega, by go_num, by rw [List.length_append, List.length_singleton, Int.natCast_add, Int.natCast_one], by have := HLi.out; simp; omega, HI7.out, HL10.out.take 4⟩
              case measure => simp [intOf]; omega

            · have hk1 : tk.tmod 2 = 1 := by omega
              go_wp2_with fail
              refine (st_del HL4.out 0 rfl tt ty HI.out.ok.good).mono ?_
              rintro e w7 ⟨rfl, h⟩
              have HI7 := Lib.hid (HI.out.note (by omega) false HN.out ty tn)
              have HL7 : Hid (Lies w w7 [rowsT rb (chg M1 false tt ty tn), refT qb [2, 1] [], logT lb' 100 (L ++ [(1, entOf M1 tt ty)]), rowsT cb' M, bkT wo.heap.size 64 [.int .u8 tk, .int .i64 tw, .int .i64 tt, .int .i64 ty, .int .i64 tn]]) := h
              clear h HL4 y0 y2 y3 y4
              go_wp2_with fail
              refine (st_clean HL7.out 2 0 rfl rfl HI7.out.ok.good HI7.out.ok.few (by have := HLi.out; simp; omega) HI7.out.wf).mono ?_
              rintro e w8 ⟨db, rfl, h⟩
              rw [HI7.out.clean] at h
              have HL8 := Lib.hid h
              clear h HL7
              go_wp2_with fail
              refine (st_same HL8.out 5 3 rfl rfl HM.out.good HM.out.good).mono ?_
              rintro e w9 ⟨he, h⟩
              rw [decide_eq_true rfl] at he
              subst he
              have HL9 := Lib.hid h
              clear h HL8
              go_wp2_with fail
              refine (st_ulen HL9.out 2 rfl 1 (by decide)).mono ?_
              rintro e w10 ⟨he, h⟩
              rw [HI7.out.len, List.length_append, List.length_singleton, Int.natCast_add, Int.natCast_one] at he
              subst he
              have HL10 := Lib.hid h
              clear h HL9
              go_wp2_with fail
              go_roundw
              case rel => exact ⟨i + 1, chg M1 false tt ty tn, L ++ [(1, entOf M1 tt ty)], by omega, by go_num, by rw [List.length_append, List.length_singleton, Int.natCast_add, Int.natCast_one], by have := HLi.out; simp; omega, HI7.out, HL10.out.take 4⟩
              case measure => simp [intOf]; omega

        · obtain rfl : i = lb.length := by omega
          go_wp2_with fail
          go_loopw [13] (fun vj wr => ∃ (j : Nat) (M2 : List MTab) (L2 : List (Int × Ent)), j + L2.length = L.length ∧ vj = .int .i64 j ∧ InvB (80 + j) M M2 L2 ∧ Lies w wr [rowsT rb M2, refT qb [2, 1] [], logT lb' 100 L2, rowsT cb' M]) (fun vj _ => L.length - (intOf vj).toNat)
          case atStart => exact ⟨0, M1, L, by omega, rfl, ⟨HI.out.ok.mono (by omega), HI.out.one, HI.out.chain⟩, HL.out⟩
          case round =>
            clear HL HI
            obtain ⟨j, M2, L2, hj, rfl, hinv, h⟩ := hrel
            have HI := Lib.hid hinv
            have HL := Lib.hid h
            have HJ := Lib.hid hj
            have hL60 : L.length ≤ 40 := by have := HLi.out; omega
            clear hinv h
            by_cases hlt : 0 < L2.length
            · have hjj : (j : Int) < (L.length : Int) := by omega
              obtain ⟨hb1, hb2, hb3⟩ := HI.out.back (by omega) hlt
              have HI4 := Lib.hid hb1
              have HB2 := Lib.hid hb2
              clear hb1 hb2
              go_wp2_with fail
              refine (st_clean (N := 80 + j) HL.out 2 0 rfl rfl HI.out.ok.good HI.out.ok.few (by omega) HI.out.wf).mono ?_
              rintro e w4 ⟨db, rfl, h⟩
              rw [HI.out.clean] at h
              have HL4 := Lib.hid h
              clear h HL
              go_wp2_with fail
              refine (st_same HL4.out 4 3 rfl rfl HM.out.good HM.out.good).mono ?_
              rintro e w5 ⟨he, h⟩
              rw [decide_eq_true rfl] at he
              subst he
              have HL5 := Lib.hid h
              clear h HL4
              go_wp2_with fail
              refine (st_back HL5.out 2 0 rfl rfl (by decide) 1 HI.out.ok.good (by decide) (by omega)).mono ?_
              rintro e w6 ⟨he, h⟩
              rw [hb3] at he
              subst he
              have HL6 : Hid (Lies w w6 [rowsT rb (backM M2 L2 1), refT qb [2, 1] [], logT lb' 100 (backL L2 1), rowsT cb' M, rowsT db M]) := h
              clear h HL5 hb3
              go_wp2_with fail
              go_roundw
              case rel => exact ⟨j + 1, backM M2 L2 1, backL L2 1, by have := HB2.out; omega, by go_num, HI4.out, HL6.out.take 4⟩
              case measure => simp [intOf]; omega
            · have hjj : ¬ (j : Int) < (L.length : Int) := by omega
              obtain ⟨rfl, rfl⟩ := HI.out.done (by omega)
              go_wp2_with fail
              refine (st_same HL.out 0 3 rfl rfl HM.out.good HM.out.good).mono ?_
              rintro e w5 ⟨he, h⟩
              rw [decide_eq_true rfl] at he
              subst he
              have HL5 := Lib.hid h
              clear h HL
              go_wp2_with fail
              refine (st_used HL5.out 2 rfl).mono ?_
              rintro e w6 ⟨rfl, h⟩
              have HL6 := Lib.hid h
              clear h HL5
              go_wp2_with fail
              refine (st_back HL6.out 2 0 rfl rfl (by decide) 1 HM.out.good (by decide) (by simp)).mono ?_
              rintro e w7 ⟨he, h⟩
              rw [show (!(ofL [] 1 : List Ent).isEmpty) = false from rfl] at he
              subst he
              have HL7 := Lib.hid h
              clear h HL6
              go_wp2_with fail
              refine (works_any _).mono ?_
              rintro e w8 ⟨rfl, hf⟩
              have HF := Lib.hid (HL7.out.fr.trans0 hf)
              clear hf
              go_wp2_with fail
              go_ret
              exact ⟨rfl, HF.out⟩
theorem backlaw_any (ha : UCallsAt w va la) (hb : UCallsAt w vb lb) :
    Calls Try.prog 6 #[va, vb] w fun e w' => e = .returned (.bool true) ∧ Fr w w' Nil := by
  by_cases h1 : la.length ≤ 40
  · by_cases h2 : lb.length ≤ 40
    · exact backlaw_main va vb la lb w ha hb h1 h2
    · exact backlaw_early va vb la lb w ha hb (.inr ⟨h1, by omega⟩)
  · exact backlaw_early va vb la lb w ha hb (.inl (by omega))
end
end Go.Proofs.Ytjpenaodkfljhaa
