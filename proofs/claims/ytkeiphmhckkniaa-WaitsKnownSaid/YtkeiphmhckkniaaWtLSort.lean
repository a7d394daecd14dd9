/-
  Walk of WaitsSorted: it answers true.
  No condition but sizes.
-/
import Derived.Test.YtkeiphmhckkniaaWtWorks
namespace Go.Proofs.Ytkeiphmhckkniaa
open Go Go.RowKit

theorem nodup_idx {l : List Nat} (h : l.Nodup) {a b x : Nat} (ha : l[a]? = some x) (hb : l[b]? = some x) : a = b :=
  (List.getElem?_inj (List.getElem?_eq_some_iff.1 ha).1 h).1 (by rw [ha, hb])
/-- Where each of the first m stands. -/
def AtOk (G : List (List Int)) (m : Nat) (L : List Int) : Prop := L.length = G.length ∧ ∀ j p : Nat, j < m → (orderP G [])[j]? = some p → L.getD p 0 = (j : Int)
theorem AtOk.step {G : List (List Int)} {m p : Nat} {L : List Int} (h : AtOk G m L) (hp : (orderP G [])[m]? = some p) (hl : p < G.length) (hn : (orderP G []).Nodup) : AtOk G (m + 1) (L.set p (m : Int)) := ⟨by simp [h.1], fun j q hj hq => by
  rw [getD_set (by rw [h.1]; exact hl)]
  by_cases e : q = p
  · subst e
    rw [if_pos rfl]
    have : j = m := nodup_idx hn hq hp
    omega
  · rw [if_neg e]
    have : j ≠ m := fun e2 => by
      rw [e2, hp] at hq
      cases hq; exact e rfl
    exact h.2 j q (by omega) hq⟩
/-- Of two that point to each other the first stands ahead. -/
theorem AtOk.ahead {G : List (List Int)} {L : List Int} (h : AtOk G G.length L) (hok : (orderP G []).length = G.length) {i q : Nat} (hi : i < G.length) (hq : q < G.length) (hs : sees G i q = true) : ∃ a b : Nat, L.getD i 0 = (a : Int) ∧ L.getD q 0 = (b : Int) ∧ a < b := by
  obtain ⟨hc, ho⟩ := orderP_chain G []
  have hin : ∀ k, k < G.length → ∃ j, j < G.length ∧ (orderP G [])[j]? = some k := fun k hk => by
    have h1 := ho.full hok k hk
    obtain ⟨j, hj⟩ := List.getElem?_of_mem h1
    exact ⟨j, by have := (List.getElem?_eq_some_iff.1 hj).1; omega, hj⟩
  obtain ⟨a, ha, ea⟩ := hin i hi
  obtain ⟨b, hb, eb⟩ := hin q hq
  exact ⟨a, b, h.2 a i ha ea, h.2 b q hb eb, chain_before hc ea eb hs hi ho.1⟩
set_option maxRecDepth 100000 in
set_option maxHeartbeats 1000000 in
theorem wsort_any (gv : Value) (G : List (List Int)) (w : World) (h : GraphW w gv G) :
    Calls Try.prog 6 #[gv] w fun e w' => e = .returned (.bool true) ∧ Fr w w' Nil := by
  obtain ⟨ii, hii, hi0, hi1, hi2⟩ := info_parts (P := Try.prog) (e := 3) (z := .int .i64 0) (size := 1) (bytes := 8) (by kernel_rfl)
  obtain ⟨ga, gc, rfl⟩ := h.shape
  have HW := Lib.hid h
  clear h
  go_enter Try.func6, Try.ntmps6
  go_wp2_with fail
  refine (few_any _ G 60 w HW.out (by decide)).mono ?_
  rintro e w0 ⟨rfl, rfl⟩
  cases hfew : fewP G 60 with
  | false =>
    clear hfew
    go_wp2_with fail
    refine (works_any w).mono ?_
    rintro e w1 ⟨rfl, hf⟩
    have HF := Lib.hid hf
    clear hf
    go_wp2_with fail
    go_ret
    exact ⟨rfl, HF.out⟩
  | true =>
    have HG := Lib.hid (HW.out.at hfew (by decide))
    have hl := (fewP_true hfew).1
    clear hfew
    go_wp2_with fail
    refine (sorted_any _ G w HG.out (by omega)).mono ?_
    rintro e w1 ⟨la, lc, rfl, ho, hn, hf⟩
    cases hok : okP G [] with
    | false =>
      have hs : sortedP G = [] := by unfold sortedP; rw [hok]; rfl
      have HOK := Lib.hid hok
      have HF := Lib.hid hf
      rw [hs]
      simp only [List.length_nil]
      clear hs ho hn hf hok
      go_wp2_with fail
      refine (acyclic_any _ G w1 (HG.out.fr0 HF.out) (by omega)).mono ?_
      rintro e w2 ⟨rfl, hf2⟩
      rw [HOK.out]
      have HF2 := Lib.hid (HF.out.trans0 hf2)
      clear hf2
      go_wp2_with fail
      refine (works_any w2).mono ?_
      rintro e w3 ⟨rfl, hf3⟩
      have HF3 := Lib.hid (HF2.out.trans0 hf3)
      clear hf3
      go_wp2_with fail
      go_ret
      exact ⟨rfl, HF3.out⟩
    | true =>
      have hs : sortedP G = orderP G [] := by unfold sortedP; rw [hok, if_pos rfl]
      have hol : (orderP G []).length = G.length := by unfold okP at hok; exact of_decide_eq_true hok
      rw [hs, hol] at ho hn
      rw [hs, hol]
      have HOK := Lib.hid hok
      have HOL := Lib.hid hol
      have HOP := Lib.hid (orderP_chain G []).2
      have Hb2 : Hid (G.length ≤ maxLen) := by
        have : G.length ≤ maxLen := by unfold maxLen; omega
        exact this
      obtain ⟨w2, hrun, hown, hgr⟩ := run_make_full (P := Try.prog) w1 0 27 3 ii (.int .i64 0) 1 Try.underlying27 hii hi0 hi1 .i64 .i64 G.length (by rw [hi2]; omega) Hb2.out (Nat.zero_le _)
      have HL0 := Lib.hid (((Lies.nil (Fr.refl w Nil)).addRow ho hn hf).made hown hgr)
      clear hs hol hok ho hn hf hown hgr
      go_wp2_with fail
      generalize w1.heap.size = ab at HL0 ⊢
      clear hrun
      go_loopw [6] (fun vi wr => ∃ (m : Nat) (L : List Int), m ≤ G.length ∧ vi = .int .i64 (m : Int) ∧ AtOk G m L ∧ Lies w wr [owT (.slice la G.length lc) (ints (orderP G [])), owT (.slice (some ⟨ab, 0, none⟩) G.length G.length) L]) (fun vi _ => G.length - (intOf vi).toNat)
      case atStart => exact ⟨0, _, by omega, rfl, ⟨by simp, fun j p hj => by omega⟩, HL0.out⟩
      case round =>
        obtain ⟨m, L, hm, rfl, hat, hL⟩ := hrel
        have HL := Lib.hid hL
        have HAT := Lib.hid hat
        clear hL hat HL0
        by_cases hlt : m < G.length
        · have hml : (m : Int) < (G.length : Int) := by omega
          have hrow := HL.out.row 0 rfl
          obtain ⟨b, c, hv, hcap⟩ := hrow.form (by rw [ints_len, HOL.out]; omega)
          rw [ints_len, HOL.out] at hv hcap
          simp only [Value.slice.injEq, true_and] at hv
          obtain ⟨rfl, rfl⟩ := hv
          obtain ⟨p, hp⟩ : ∃ p, (orderP G [])[m]? = some p := ⟨_, List.getElem?_eq_getElem (by rw [HOL.out]; exact hlt)⟩
          have hpl := HOP.out.2 p (List.mem_of_getElem? hp)
          have hpp : (p : Int) < (G.length : Int) := by omega
          have q0 := hrow.cell (by rw [ints_len, HOL.out]) m (by rw [ints_len, HOL.out]; exact hlt)
          rw [ints_getD, List.getD_eq_getElem?_getD, hp] at q0
          simp only [Option.getD_some] at q0
          have HTK : Hid (IntsAt wr (.slice (some ⟨b, 0, none⟩) m lc) (ints ((orderP G []).take m)) ∧ (ints ((orderP G []).take m)).contains (p : Int) = false ∧ (ints ((orderP G []).take m)).length ≤ 1000000) := by
            refine Lib.hid ⟨?_, ?_, ?_⟩
            · have e1 : (ints ((orderP G []).take m)).length = m := by rw [ints_len, List.length_take, HOL.out]; omega
              refine .inr ⟨_, lc, by rw [e1], fun j u hu => ?_⟩
              have hj := (List.getElem?_eq_some_iff.1 hu).1
              rw [List.length_map, e1] at hj
              rw [Addr.add_lit, Nat.zero_add, hrow.cell (by rw [ints_len, HOL.out]) j (by rw [ints_len, HOL.out]; omega), ← hu, ints_getD]
              have hj2 : j < (orderP G []).length := by rw [HOL.out]; omega
              simp [ints, hj, List.getD_eq_getElem?_getD, hj2]
            · rw [← Bool.not_eq_true, List.contains_iff_mem, mem_ints]
              rintro ⟨k, e, hk⟩
              obtain rfl : k = p := by omega
              obtain ⟨j, hj, e2⟩ := List.mem_iff_getElem.1 hk
              rw [List.length_take] at hj
              rw [List.getElem_take] at e2
              have hj2 : (orderP G [])[j]? = some k := by rw [List.getElem?_eq_getElem (by omega), e2]
              have := nodup_idx HOP.out.1 hj2 hp
              omega
            · rw [ints_len, List.length_take]; omega
          have d1 : decide (G.length ≤ p) = false := decide_eq_false (by omega)
          have HPP := Lib.hid hp
          have hcm : m ≤ lc := by omega
          clear hp hrow
          go_wp2_with fail
          refine wp_region_sink 23 (fun w' : World => Fr wr w' Nil ∧ w'.cell? ⟨b, m, none⟩ = some (.int .i64 (p : Int))) (by kernel_rfl) ?_
          have hS : (fun w' : World => Fr wr w' Nil ∧ w'.cell? ⟨b, m, none⟩ = some (.int .i64 (p : Int))) wr.drew := ⟨(Fr.refl wr Nil).drew, q0⟩
          clear q0
          refine wpAnyS_take (i := 0) (v := ?_) rfl (by kernel_rfl) (fun _ _ _ h => h) (by rfl) hS ?_ ?_
          rotate_left
          · intro w' hS'
            (try dsimp only at hS')
            go_simp <;> with_reducible rfl
          try simp only [Act.put, List.setIfInBounds_toArray, List.set_cons_zero, List.set_cons_succ]
          refine wpAnyS_take (i := 1) (v := ?_) rfl (by kernel_rfl) (fun _ _ _ h => h) (by rfl) hS ?_ ?_
          rotate_left
          · intro w' hS'
            (try dsimp only at hS')
            go_simp <;> with_reducible rfl
          try simp only [Act.put, List.setIfInBounds_toArray, List.set_cons_zero, List.set_cons_succ]
          refine wpAnyS_take (i := 2) (v := ?_) rfl (by kernel_rfl) (fun _ _ _ h => h) (by rfl) hS ?_ ?_
          rotate_left
          · intro w' hS'
            (try dsimp only at hS')
            go_simp <;> with_reducible rfl
          try simp only [Act.put, List.setIfInBounds_toArray, List.set_cons_zero, List.set_cons_succ]
          refine wpAnyS_take (i := 3) (v := ?_) rfl (by kernel_rfl) (fun _ _ _ h => h) (by rfl) hS ?_ ?_
          rotate_left
          · intro w' hS'
            (try dsimp only at hS')
            go_simp <;> with_reducible rfl
          try simp only [Act.put, List.setIfInBounds_toArray, List.set_cons_zero, List.set_cons_succ]
          refine wpAnyS_take (i := 4) (v := ?_) rfl (by kernel_rfl) (fun _ _ _ h => h) (by rfl) hS ?_ ?_
          rotate_left
          · intro w' hS'
            (try dsimp only at hS')
            go_simp <;> with_reducible rfl
          try simp only [Act.put, List.setIfInBounds_toArray, List.set_cons_zero, List.set_cons_succ]
          refine wpAnyS_take (i := 5) (v := ?_) rfl (by kernel_rfl) (fun _ _ _ h => h) (by rfl) hS ?_ ?_
          rotate_left
          · intro w' hS'
            (try dsimp only at hS')
            go_simp <;> with_reducible rfl
          try simp only [Act.put, List.setIfInBounds_toArray, List.set_cons_zero, List.set_cons_succ]
          refine wpAnyS_take (i := 6) (v := ?_) rfl (by kernel_rfl) (fun _ _ _ h => h) (by rfl) hS ?_ ?_
          rotate_left
          · intro w' hS'
            (try dsimp only at hS')
            go_simp <;> with_reducible rfl
          try simp only [Act.put, List.setIfInBounds_toArray, List.set_cons_zero, List.set_cons_succ]
          refine wpAnyS_take (i := 7) (v := ?_) rfl (by kernel_rfl) (fun _ _ _ h => h) (by rfl) hS ?_ ?_
          rotate_left
          · intro w' hS'
            (try dsimp only at hS')
            go_simp <;> with_reducible rfl
          try simp only [Act.put, List.setIfInBounds_toArray, List.set_cons_zero, List.set_cons_succ]
          refine wpAnyS_take (i := 8) (v := ?_) rfl (by kernel_rfl) (fun _ _ _ h => h) (by rfl) hS ?_ ?_
          rotate_left
          · intro w' hS'
            (try dsimp only at hS')
            go_simp <;> with_reducible rfl
          try simp only [Act.put, List.setIfInBounds_toArray, List.set_cons_zero, List.set_cons_succ]
          refine wpAnyS_take (i := 9) (v := ?_) rfl (by kernel_rfl) (fun _ _ _ h => h) (by rfl) hS ?_ ?_
          rotate_left
          · intro w' hS'
            (try dsimp only at hS')
            go_simp <;> with_reducible rfl
          try simp only [Act.put, List.setIfInBounds_toArray, List.set_cons_zero, List.set_cons_succ]
          refine wpAnyS_take (i := 10) (v := ?_) rfl (by kernel_rfl) (fun _ _ _ h => h) (by rfl) hS ?_ ?_
          rotate_left
          · intro w' hS'
            (try dsimp only at hS')
            go_simp <;> with_reducible rfl
          try simp only [Act.put, List.setIfInBounds_toArray, List.set_cons_zero, List.set_cons_succ]
          refine wpAnyS_take (i := 11) (v := ?_) rfl (by kernel_rfl) (fun _ _ _ h => h) (by rfl) hS ?_ ?_
          rotate_left
          · intro w' hS'
            (try dsimp only at hS')
            go_simp <;> with_reducible rfl
          try simp only [Act.put, List.setIfInBounds_toArray, List.set_cons_zero, List.set_cons_succ]
          refine wpAnyS_take (i := 12) (v := ?_) rfl (by kernel_rfl) (fun _ _ _ h => h) (by rfl) hS ?_ ?_
          rotate_left
          · intro w' hS'
            (try dsimp only at hS')
            go_simp <;> with_reducible rfl
          try simp only [Act.put, List.setIfInBounds_toArray, List.set_cons_zero, List.set_cons_succ]
          refine wpAnyS_take (i := 13) (v := ?_) rfl (by kernel_rfl) (fun _ _ _ h => h) (by rfl) hS ?_ ?_
          rotate_left
          · intro w' hS'
            (try dsimp only at hS')
            go_simp <;> with_reducible rfl
          try simp only [Act.put, List.setIfInBounds_toArray, List.set_cons_zero, List.set_cons_succ]
          refine wpAnyS_take (i := 14) (v := ?_) rfl (by kernel_rfl) (fun _ _ _ h => h) (by rfl) hS ?_ ?_
          rotate_left
          · intro w' hS'
            (try dsimp only at hS')
            go_simp <;> with_reducible rfl
          try simp only [Act.put, List.setIfInBounds_toArray, List.set_cons_zero, List.set_cons_succ]
          refine wpAnyS_take (i := 15) (v := ?_) rfl (by kernel_rfl) (fun _ _ _ h => h) (by rfl) hS ?_ ?_
          rotate_left
          · intro w' hS'
            (try dsimp only at hS')
            go_simp <;> with_reducible rfl
          try simp only [Act.put, List.setIfInBounds_toArray, List.set_cons_zero, List.set_cons_succ]
          refine wpAnyS_take (i := 16) (v := ?_) rfl (by kernel_rfl) (fun _ _ _ h => h) (by rfl) hS ?_ ?_
          rotate_left
          · intro w' hS'
            (try dsimp only at hS')
            go_simp <;> with_reducible rfl
          try simp only [Act.put, List.setIfInBounds_toArray, List.set_cons_zero, List.set_cons_succ]
          refine wpAnyS_take (i := 17) (v := ?_) rfl (by kernel_rfl) (fun _ _ _ h => h) (by rfl) hS ?_ ?_
          rotate_left
          · intro w' hS'
            (try dsimp only at hS')
            go_simp <;> with_reducible rfl
          try simp only [Act.put, List.setIfInBounds_toArray, List.set_cons_zero, List.set_cons_succ]
          refine wpAnyS_take (i := 18) (v := ?_) rfl (by kernel_rfl) (fun _ _ _ h => h) (by rfl) hS ?_ ?_
          rotate_left
          · intro w' hS'
            (try dsimp only at hS')
            go_simp <;> with_reducible rfl
          try simp only [Act.put, List.setIfInBounds_toArray, List.set_cons_zero, List.set_cons_succ]
          refine wpAnyS_take (i := 19) (v := ?_) rfl (by kernel_rfl) (fun _ _ _ h => h) (by rfl) hS ?_ ?_
          rotate_left
          · intro w' hS'
            (try dsimp only at hS')
            go_simp <;> with_reducible rfl
          try simp only [Act.put, List.setIfInBounds_toArray, List.set_cons_zero, List.set_cons_succ]
          refine wpAnyS_take (i := 20) (v := ?_) rfl (by kernel_rfl) (fun _ _ _ h => h) (by rfl) hS ?_ ?_
          rotate_left
          · intro w' hS'
            (try dsimp only at hS')
            go_simp <;> with_reducible rfl
          try simp only [Act.put, List.setIfInBounds_toArray, List.set_cons_zero, List.set_cons_succ]
          refine wpAnyS_take (i := 21) (v := ?_) rfl (by kernel_rfl) (fun _ _ _ h => h) (by rfl) hS ?_ ?_
          rotate_left
          · intro w' hS'
            (try dsimp only at hS')
            go_simp <;> with_reducible rfl
          try simp only [Act.put, List.setIfInBounds_toArray, List.set_cons_zero, List.set_cons_succ]
          refine wpAnyS_one (i := 22) rfl (by kernel_rfl) (by decide) (by rfl) fun K hK => ?_
          go_simp
          refine (has_any _ _ (p : Int) _ (HTK.out.1.fr hS.1 (fun _ _ h => h)) HTK.out.2.2).mono ?_
          rintro e w4 ⟨rfl, rfl⟩
          rw [HTK.out.2.1]
          refine hK.out _ _ hS ?_
          clear hK K
          try simp only [Act.put, List.setIfInBounds_toArray, List.set_cons_zero, List.set_cons_succ]
          refine wpAnyS_last (i := 23) rfl (by kernel_rfl) (by decide) (by kernel_rfl) (by rfl) fun K hK => ?_
          go_simp
          refine hK.out _ _ ?_
          clear hK K
          have HL4 := Lib.hid (HL.out.fr0 hS.1)
          have q0 := hS.2
          have HO := HL4.out.row 1 rfl
          have q1 := HO.cell HAT.out.1.symm p (by rw [HAT.out.1]; exact hpl)
          have f1 := HO.free HAT.out.1.symm p
          have HAT2 := Lib.hid (HAT.out.step HPP.out hpl HOP.out.1)
          have HL5 := Lib.hid (HL4.out.storedI 1 rfl p (m : Int))
          clear hS HO
          generalize wr.drew = w4 at *
          generalize L.getD p 0 = old at q1
          go_wp2_with fail
          go_roundw
          case rel => exact ⟨m + 1, _, by omega, by go_num, HAT2.out, HL5.out⟩
          case measure => simp [intOf]; omega
        · obtain rfl : m = G.length := by omega
          go_wp2_with fail
          go_loopw [7] (fun vi wq => ∃ i : Nat, i ≤ G.length ∧ vi = .int .i64 (i : Int) ∧ Lies w wq [owT (.slice la G.length lc) (ints (orderP G [])), owT (.slice (some ⟨ab, 0, none⟩) G.length G.length) L]) (fun vi _ => G.length - (intOf vi).toNat)
          case atStart => exact ⟨0, by omega, rfl, HL.out⟩
          case round =>
            obtain ⟨i, hi, rfl, hL2⟩ := hrel
            have HL2 := Lib.hid hL2
            clear hL2 HL
            by_cases hlt2 : i < G.length
            · have hil : (i : Int) < (G.length : Int) := by omega
              have hgi := List.getElem?_eq_getElem hlt2
              have hgd : G.getD i [] = G[i] := by rw [List.getD_eq_getElem?_getD, hgi]; rfl
              obtain ⟨gb, go, gcap, hv, hc⟩ := HG.out.form (by omega)
              simp only [Value.slice.injEq, true_and] at hv
              obtain ⟨rfl, rfl⟩ := hv
              obtain ⟨u, hu, hxu, hxl⟩ := hc i _ hgi
              generalize G[i] = xs at *
              obtain ⟨ua, uc, rfl⟩ := hxu.shape
              have HU := Lib.hid hu
              have HXU := Lib.hid hxu
              have HGD := Lib.hid hgd
              clear hgi hc hu hxu hgd
              go_wp2_with fail
              go_loopw [8] (fun vk wq => ∃ k : Nat, k ≤ xs.length ∧ vk = .int .i64 (k : Int) ∧ Lies w wq [owT (.slice la G.length lc) (ints (orderP G [])), owT (.slice (some ⟨ab, 0, none⟩) G.length G.length) L]) (fun vk _ => xs.length - (intOf vk).toNat)
              case atStart => exact ⟨0, by omega, rfl, HL2.out⟩
              case round =>
                obtain ⟨k, hk, rfl, hL2⟩ := hrel
                have HL2 := Lib.hid hL2
                clear hL2
                have q0 := HL2.out.fr.cell HU.out (fun h => h)
                by_cases hlt3 : k < xs.length
                · have hkl : (k : Int) < (xs.length : Int) := by omega
                  obtain ⟨xb, xo, xc2, hv2, hxc⟩ := HXU.out.form (by omega)
                  simp only [Value.slice.injEq, true_and] at hv2
                  obtain ⟨rfl, rfl⟩ := hv2
                  have hyk := List.getElem?_eq_getElem hlt3
                  have q1 := HL2.out.fr.cell (hxc k _ hyk) (fun h => h)
                  generalize xs[k] = y at *
                  have HYM := Lib.hid (List.mem_of_getElem? hyk)
                  clear hxc hyk
                  by_cases hy0 : y < 0
                  · have d1 : decide (0 ≤ y) = false := decide_eq_false (by omega)
                    go_wp2_with fail
                    refine wp_region_sink 18 (fun w' : World => Fr wr w' Nil) (by kernel_rfl) ?_
                    have hS : (fun w' : World => Fr wr w' Nil) wr.drew := (Fr.refl wr Nil).drew
                    refine wpAnyS_take (i := 0) (v := ?_) rfl (by kernel_rfl) (fun _ _ _ h => h) (by rfl) hS ?_ ?_
                    rotate_left
                    · intro w' hS'
                      (try dsimp only at hS')
                      go_simp <;> with_reducible rfl
                    try simp only [Act.put, List.setIfInBounds_toArray, List.set_cons_zero, List.set_cons_succ]
                    refine wpAnyS_take (i := 1) (v := ?_) rfl (by kernel_rfl) (fun _ _ _ h => h) (by rfl) hS ?_ ?_
                    rotate_left
                    · intro w' hS'
                      (try dsimp only at hS')
                      go_simp <;> with_reducible rfl
                    try simp only [Act.put, List.setIfInBounds_toArray, List.set_cons_zero, List.set_cons_succ]
                    refine wpAnyS_take (i := 2) (v := ?_) rfl (by kernel_rfl) (fun _ _ _ h => h) (by rfl) hS ?_ ?_
                    rotate_left
                    · intro w' hS'
                      (try dsimp only at hS')
                      go_simp <;> with_reducible rfl
                    try simp only [Act.put, List.setIfInBounds_toArray, List.set_cons_zero, List.set_cons_succ]
                    refine wpAnyS_skip (i := 3) rfl (by kernel_rfl) (fun _ _ _ h => h) (by rfl) hS ?_
                    try simp only [Act.put, List.setIfInBounds_toArray, List.set_cons_zero, List.set_cons_succ]
                    refine wpAnyS_skip (i := 4) rfl (by kernel_rfl) (fun _ _ _ h => h) (by rfl) hS ?_
                    try simp only [Act.put, List.setIfInBounds_toArray, List.set_cons_zero, List.set_cons_succ]
                    refine wpAnyS_skip (i := 5) rfl (by kernel_rfl) (fun _ _ _ h => h) (by rfl) hS ?_
                    try simp only [Act.put, List.setIfInBounds_toArray, List.set_cons_zero, List.set_cons_succ]
                    refine wpAnyS_skip (i := 6) rfl (by kernel_rfl) (fun _ _ _ h => h) (by rfl) hS ?_
                    try simp only [Act.put, List.setIfInBounds_toArray, List.set_cons_zero, List.set_cons_succ]
                    refine wpAnyS_take (i := 7) (v := ?_) rfl (by kernel_rfl) (fun _ _ _ h => h) (by rfl) hS ?_ ?_
                    rotate_left
                    · intro w' hS'
                      (try dsimp only at hS')
                      go_simp <;> with_reducible rfl
                    try simp only [Act.put, List.setIfInBounds_toArray, List.set_cons_zero, List.set_cons_succ]
                    refine wpAnyS_take (i := 8) (v := ?_) rfl (by kernel_rfl) (fun _ _ _ h => h) (by rfl) hS ?_ ?_
                    rotate_left
                    · intro w' hS'
                      (try dsimp only at hS')
                      go_simp <;> with_reducible rfl
                    try simp only [Act.put, List.setIfInBounds_toArray, List.set_cons_zero, List.set_cons_succ]
                    refine wpAnyS_skip (i := 9) rfl (by kernel_rfl) (fun _ _ _ h => h) (by rfl) hS ?_
                    try simp only [Act.put, List.setIfInBounds_toArray, List.set_cons_zero, List.set_cons_succ]
                    refine wpAnyS_skip (i := 10) rfl (by kernel_rfl) (fun _ _ _ h => h) (by rfl) hS ?_
                    try simp only [Act.put, List.setIfInBounds_toArray, List.set_cons_zero, List.set_cons_succ]
                    refine wpAnyS_skip (i := 11) rfl (by kernel_rfl) (fun _ _ _ h => h) (by rfl) hS ?_
                    try simp only [Act.put, List.setIfInBounds_toArray, List.set_cons_zero, List.set_cons_succ]
                    refine wpAnyS_skip (i := 12) rfl (by kernel_rfl) (fun _ _ _ h => h) (by rfl) hS ?_
                    try simp only [Act.put, List.setIfInBounds_toArray, List.set_cons_zero, List.set_cons_succ]
                    refine wpAnyS_skip (i := 13) rfl (by kernel_rfl) (fun _ _ _ h => h) (by rfl) hS ?_
                    try simp only [Act.put, List.setIfInBounds_toArray, List.set_cons_zero, List.set_cons_succ]
                    refine wpAnyS_skip (i := 14) rfl (by kernel_rfl) (fun _ _ _ h => h) (by rfl) hS ?_
                    try simp only [Act.put, List.setIfInBounds_toArray, List.set_cons_zero, List.set_cons_succ]
                    refine wpAnyS_skip (i := 15) rfl (by kernel_rfl) (fun _ _ _ h => h) (by rfl) hS ?_
                    try simp only [Act.put, List.setIfInBounds_toArray, List.set_cons_zero, List.set_cons_succ]
                    refine wpAnyS_skip (i := 16) rfl (by kernel_rfl) (fun _ _ _ h => h) (by rfl) hS ?_
                    try simp only [Act.put, List.setIfInBounds_toArray, List.set_cons_zero, List.set_cons_succ]
                    refine wpAnyS_skip (i := 17) rfl (by kernel_rfl) (fun _ _ _ h => h) (by rfl) hS ?_
                    try simp only [Act.put, List.setIfInBounds_toArray, List.set_cons_zero, List.set_cons_succ]
                    refine wpAnyS_last (i := 18) rfl (by kernel_rfl) (by decide) (by kernel_rfl) (by rfl) fun K hK => ?_
                    go_simp
                    refine hK.out _ _ ?_
                    clear hK K
                    have HL3 := Lib.hid (HL2.out.fr0 hS)
                    clear hS
                    generalize wr.drew = w5 at *
                    go_wp2_with fail
                    go_roundw
                    case rel => exact ⟨k + 1, by omega, by go_num, HL3.out⟩
                    case measure => simp [intOf]; omega
                  · obtain ⟨q, rfl⟩ : ∃ q : Nat, y = (q : Int) := ⟨y.toNat, by omega⟩
                    by_cases hqn : G.length ≤ q
                    · have d2 : decide (q < G.length) = false := decide_eq_false (by omega)
                      go_wp2_with fail
                      refine wp_region_sink 18 (fun w' : World => Fr wr w' Nil) (by kernel_rfl) ?_
                      have hS : (fun w' : World => Fr wr w' Nil) wr.drew := (Fr.refl wr Nil).drew
                      refine wpAnyS_take (i := 0) (v := ?_) rfl (by kernel_rfl) (fun _ _ _ h => h) (by rfl) hS ?_ ?_
                      rotate_left
                      · intro w' hS'
                        (try dsimp only at hS')
                        go_simp <;> with_reducible rfl
                      try simp only [Act.put, List.setIfInBounds_toArray, List.set_cons_zero, List.set_cons_succ]
                      refine wpAnyS_take (i := 1) (v := ?_) rfl (by kernel_rfl) (fun _ _ _ h => h) (by rfl) hS ?_ ?_
                      rotate_left
                      · intro w' hS'
                        (try dsimp only at hS')
                        go_simp <;> with_reducible rfl
                      try simp only [Act.put, List.setIfInBounds_toArray, List.set_cons_zero, List.set_cons_succ]
                      refine wpAnyS_take (i := 2) (v := ?_) rfl (by kernel_rfl) (fun _ _ _ h => h) (by rfl) hS ?_ ?_
                      rotate_left
                      · intro w' hS'
                        (try dsimp only at hS')
                        go_simp <;> with_reducible rfl
                      try simp only [Act.put, List.setIfInBounds_toArray, List.set_cons_zero, List.set_cons_succ]
                      refine wpAnyS_take (i := 3) (v := ?_) rfl (by kernel_rfl) (fun _ _ _ h => h) (by rfl) hS ?_ ?_
                      rotate_left
                      · intro w' hS'
                        (try dsimp only at hS')
                        go_simp <;> with_reducible rfl
                      try simp only [Act.put, List.setIfInBounds_toArray, List.set_cons_zero, List.set_cons_succ]
                      refine wpAnyS_take (i := 4) (v := ?_) rfl (by kernel_rfl) (fun _ _ _ h => h) (by rfl) hS ?_ ?_
                      rotate_left
                      · intro w' hS'
                        (try dsimp only at hS')
                        go_simp <;> with_reducible rfl
                      try simp only [Act.put, List.setIfInBounds_toArray, List.set_cons_zero, List.set_cons_succ]
                      refine wpAnyS_take (i := 5) (v := ?_) rfl (by kernel_rfl) (fun _ _ _ h => h) (by rfl) hS ?_ ?_
                      rotate_left
                      · intro w' hS'
                        (try dsimp only at hS')
                        go_simp <;> with_reducible rfl
                      try simp only [Act.put, List.setIfInBounds_toArray, List.set_cons_zero, List.set_cons_succ]
                      refine wpAnyS_take (i := 6) (v := ?_) rfl (by kernel_rfl) (fun _ _ _ h => h) (by rfl) hS ?_ ?_
                      rotate_left
                      · intro w' hS'
                        (try dsimp only at hS')
                        go_simp <;> with_reducible rfl
                      try simp only [Act.put, List.setIfInBounds_toArray, List.set_cons_zero, List.set_cons_succ]
                      refine wpAnyS_take (i := 7) (v := ?_) rfl (by kernel_rfl) (fun _ _ _ h => h) (by rfl) hS ?_ ?_
                      rotate_left
                      · intro w' hS'
                        (try dsimp only at hS')
                        go_simp <;> with_reducible rfl
                      try simp only [Act.put, List.setIfInBounds_toArray, List.set_cons_zero, List.set_cons_succ]
                      refine wpAnyS_take (i := 8) (v := ?_) rfl (by kernel_rfl) (fun _ _ _ h => h) (by rfl) hS ?_ ?_
                      rotate_left
                      · intro w' hS'
                        (try dsimp only at hS')
                        go_simp <;> with_reducible rfl
                      try simp only [Act.put, List.setIfInBounds_toArray, List.set_cons_zero, List.set_cons_succ]
                      refine wpAnyS_skip (i := 9) rfl (by kernel_rfl) (fun _ _ _ h => h) (by rfl) hS ?_
                      try simp only [Act.put, List.setIfInBounds_toArray, List.set_cons_zero, List.set_cons_succ]
                      refine wpAnyS_skip (i := 10) rfl (by kernel_rfl) (fun _ _ _ h => h) (by rfl) hS ?_
                      try simp only [Act.put, List.setIfInBounds_toArray, List.set_cons_zero, List.set_cons_succ]
                      refine wpAnyS_skip (i := 11) rfl (by kernel_rfl) (fun _ _ _ h => h) (by rfl) hS ?_
                      try simp only [Act.put, List.setIfInBounds_toArray, List.set_cons_zero, List.set_cons_succ]
                      refine wpAnyS_skip (i := 12) rfl (by kernel_rfl) (fun _ _ _ h => h) (by rfl) hS ?_
                      try simp only [Act.put, List.setIfInBounds_toArray, List.set_cons_zero, List.set_cons_succ]
                      refine wpAnyS_skip (i := 13) rfl (by kernel_rfl) (fun _ _ _ h => h) (by rfl) hS ?_
                      try simp only [Act.put, List.setIfInBounds_toArray, List.set_cons_zero, List.set_cons_succ]
                      refine wpAnyS_skip (i := 14) rfl (by kernel_rfl) (fun _ _ _ h => h) (by rfl) hS ?_
                      try simp only [Act.put, List.setIfInBounds_toArray, List.set_cons_zero, List.set_cons_succ]
                      refine wpAnyS_skip (i := 15) rfl (by kernel_rfl) (fun _ _ _ h => h) (by rfl) hS ?_
                      try simp only [Act.put, List.setIfInBounds_toArray, List.set_cons_zero, List.set_cons_succ]
                      refine wpAnyS_skip (i := 16) rfl (by kernel_rfl) (fun _ _ _ h => h) (by rfl) hS ?_
                      try simp only [Act.put, List.setIfInBounds_toArray, List.set_cons_zero, List.set_cons_succ]
                      refine wpAnyS_skip (i := 17) rfl (by kernel_rfl) (fun _ _ _ h => h) (by rfl) hS ?_
                      try simp only [Act.put, List.setIfInBounds_toArray, List.set_cons_zero, List.set_cons_succ]
                      refine wpAnyS_last (i := 18) rfl (by kernel_rfl) (by decide) (by kernel_rfl) (by rfl) fun K hK => ?_
                      go_simp
                      refine hK.out _ _ ?_
                      clear hK K
                      have HL3 := Lib.hid (HL2.out.fr0 hS)
                      clear hS
                      generalize wr.drew = w5 at *
                      go_wp2_with fail
                      go_roundw
                      case rel => exact ⟨k + 1, by omega, by go_num, HL3.out⟩
                      case measure => simp [intOf]; omega
                    · have hql : q < G.length := by omega
                      have hqq : (q : Int) < (G.length : Int) := by omega
                      have d2 : decide (q < G.length) = true := decide_eq_true hql
                      have hsee : sees G i q = true := by unfold sees; rw [HGD.out, List.contains_iff_mem]; exact HYM.out
                      obtain ⟨pa, pb, ea, eb, hab⟩ := HAT.out.ahead HOL.out hlt2 hql hsee
                      have HO := HL2.out.row 1 rfl
                      have q2 := HO.cell HAT.out.1.symm i (by rw [HAT.out.1]; exact hlt2)
                      have q3 := HO.cell HAT.out.1.symm q (by rw [HAT.out.1]; exact hql)
                      rw [ea] at q2
                      rw [eb] at q3
                      have d3 : decide (pb ≤ pa) = false := decide_eq_false (by omega)
                      clear HO ea eb hsee
                      go_wp2_with fail
                      refine wp_region_sink 18 (fun w' : World => Fr wr w' Nil ∧ w'.cell? ⟨ab, i, none⟩ = some (.int .i64 (pa : Int)) ∧ w'.cell? ⟨ab, q, none⟩ = some (.int .i64 (pb : Int))) (by kernel_rfl) ?_
                      have hS : (fun w' : World => Fr wr w' Nil ∧ w'.cell? ⟨ab, i, none⟩ = some (.int .i64 (pa : Int)) ∧ w'.cell? ⟨ab, q, none⟩ = some (.int .i64 (pb : Int))) wr.drew := ⟨(Fr.refl wr Nil).drew, q2, q3⟩
                      refine wpAnyS_take (i := 0) (v := ?_) rfl (by kernel_rfl) (fun _ _ _ h => h) (by rfl) hS ?_ ?_
                      rotate_left
                      · intro w' hS'
                        (try dsimp only at hS')
                        go_simp <;> with_reducible rfl
                      try simp only [Act.put, List.setIfInBounds_toArray, List.set_cons_zero, List.set_cons_succ]
                      refine wpAnyS_take (i := 1) (v := ?_) rfl (by kernel_rfl) (fun _ _ _ h => h) (by rfl) hS ?_ ?_
                      rotate_left
                      · intro w' hS'
                        (try dsimp only at hS')
                        go_simp <;> with_reducible rfl
                      try simp only [Act.put, List.setIfInBounds_toArray, List.set_cons_zero, List.set_cons_succ]
                      refine wpAnyS_take (i := 2) (v := ?_) rfl (by kernel_rfl) (fun _ _ _ h => h) (by rfl) hS ?_ ?_
                      rotate_left
                      · intro w' hS'
                        (try dsimp only at hS')
                        go_simp <;> with_reducible rfl
                      try simp only [Act.put, List.setIfInBounds_toArray, List.set_cons_zero, List.set_cons_succ]
                      refine wpAnyS_take (i := 3) (v := ?_) rfl (by kernel_rfl) (fun _ _ _ h => h) (by rfl) hS ?_ ?_
                      rotate_left
                      · intro w' hS'
                        (try dsimp only at hS')
                        go_simp <;> with_reducible rfl
                      try simp only [Act.put, List.setIfInBounds_toArray, List.set_cons_zero, List.set_cons_succ]
                      refine wpAnyS_take (i := 4) (v := ?_) rfl (by kernel_rfl) (fun _ _ _ h => h) (by rfl) hS ?_ ?_
                      rotate_left
                      · intro w' hS'
                        (try dsimp only at hS')
                        go_simp <;> with_reducible rfl
                      try simp only [Act.put, List.setIfInBounds_toArray, List.set_cons_zero, List.set_cons_succ]
                      refine wpAnyS_take (i := 5) (v := ?_) rfl (by kernel_rfl) (fun _ _ _ h => h) (by rfl) hS ?_ ?_
                      rotate_left
                      · intro w' hS'
                        (try dsimp only at hS')
                        go_simp <;> with_reducible rfl
                      try simp only [Act.put, List.setIfInBounds_toArray, List.set_cons_zero, List.set_cons_succ]
                      refine wpAnyS_take (i := 6) (v := ?_) rfl (by kernel_rfl) (fun _ _ _ h => h) (by rfl) hS ?_ ?_
                      rotate_left
                      · intro w' hS'
                        (try dsimp only at hS')
                        go_simp <;> with_reducible rfl
                      try simp only [Act.put, List.setIfInBounds_toArray, List.set_cons_zero, List.set_cons_succ]
                      refine wpAnyS_take (i := 7) (v := ?_) rfl (by kernel_rfl) (fun _ _ _ h => h) (by rfl) hS ?_ ?_
                      rotate_left
                      · intro w' hS'
                        (try dsimp only at hS')
                        go_simp <;> with_reducible rfl
                      try simp only [Act.put, List.setIfInBounds_toArray, List.set_cons_zero, List.set_cons_succ]
                      refine wpAnyS_take (i := 8) (v := ?_) rfl (by kernel_rfl) (fun _ _ _ h => h) (by rfl) hS ?_ ?_
                      rotate_left
                      · intro w' hS'
                        (try dsimp only at hS')
                        go_simp <;> with_reducible rfl
                      try simp only [Act.put, List.setIfInBounds_toArray, List.set_cons_zero, List.set_cons_succ]
                      refine wpAnyS_take (i := 9) (v := ?_) rfl (by kernel_rfl) (fun _ _ _ h => h) (by rfl) hS ?_ ?_
                      rotate_left
                      · intro w' hS'
                        (try dsimp only at hS')
                        go_simp <;> with_reducible rfl
                      try simp only [Act.put, List.setIfInBounds_toArray, List.set_cons_zero, List.set_cons_succ]
                      refine wpAnyS_take (i := 10) (v := ?_) rfl (by kernel_rfl) (fun _ _ _ h => h) (by rfl) hS ?_ ?_
                      rotate_left
                      · intro w' hS'
                        (try dsimp only at hS')
                        go_simp <;> with_reducible rfl
                      try simp only [Act.put, List.setIfInBounds_toArray, List.set_cons_zero, List.set_cons_succ]
                      refine wpAnyS_take (i := 11) (v := ?_) rfl (by kernel_rfl) (fun _ _ _ h => h) (by rfl) hS ?_ ?_
                      rotate_left
                      · intro w' hS'
                        (try dsimp only at hS')
                        go_simp <;> with_reducible rfl
                      try simp only [Act.put, List.setIfInBounds_toArray, List.set_cons_zero, List.set_cons_succ]
                      refine wpAnyS_take (i := 12) (v := ?_) rfl (by kernel_rfl) (fun _ _ _ h => h) (by rfl) hS ?_ ?_
                      rotate_left
                      · intro w' hS'
                        (try dsimp only at hS')
                        go_simp <;> with_reducible rfl
                      try simp only [Act.put, List.setIfInBounds_toArray, List.set_cons_zero, List.set_cons_succ]
                      refine wpAnyS_take (i := 13) (v := ?_) rfl (by kernel_rfl) (fun _ _ _ h => h) (by rfl) hS ?_ ?_
                      rotate_left
                      · intro w' hS'
                        (try dsimp only at hS')
                        go_simp <;> with_reducible rfl
                      try simp only [Act.put, List.setIfInBounds_toArray, List.set_cons_zero, List.set_cons_succ]
                      refine wpAnyS_take (i := 14) (v := ?_) rfl (by kernel_rfl) (fun _ _ _ h => h) (by rfl) hS ?_ ?_
                      rotate_left
                      · intro w' hS'
                        (try dsimp only at hS')
                        go_simp <;> with_reducible rfl
                      try simp only [Act.put, List.setIfInBounds_toArray, List.set_cons_zero, List.set_cons_succ]
                      refine wpAnyS_take (i := 15) (v := ?_) rfl (by kernel_rfl) (fun _ _ _ h => h) (by rfl) hS ?_ ?_
                      rotate_left
                      · intro w' hS'
                        (try dsimp only at hS')
                        go_simp <;> with_reducible rfl
                      try simp only [Act.put, List.setIfInBounds_toArray, List.set_cons_zero, List.set_cons_succ]
                      refine wpAnyS_take (i := 16) (v := ?_) rfl (by kernel_rfl) (fun _ _ _ h => h) (by rfl) hS ?_ ?_
                      rotate_left
                      · intro w' hS'
                        (try dsimp only at hS')
                        go_simp <;> with_reducible rfl
                      try simp only [Act.put, List.setIfInBounds_toArray, List.set_cons_zero, List.set_cons_succ]
                      refine wpAnyS_take (i := 17) (v := ?_) rfl (by kernel_rfl) (fun _ _ _ h => h) (by rfl) hS ?_ ?_
                      rotate_left
                      · intro w' hS'
                        (try dsimp only at hS')
                        go_simp <;> with_reducible rfl
                      try simp only [Act.put, List.setIfInBounds_toArray, List.set_cons_zero, List.set_cons_succ]
                      refine wpAnyS_last (i := 18) rfl (by kernel_rfl) (by decide) (by kernel_rfl) (by rfl) fun K hK => ?_
                      go_simp
                      refine hK.out _ _ ?_
                      clear hK K
                      have HL3 := Lib.hid (HL2.out.fr0 hS.1)
                      clear hS
                      generalize wr.drew = w5 at *
                      go_wp2_with fail
                      go_roundw
                      case rel => exact ⟨k + 1, by omega, by go_num, HL3.out⟩
                      case measure => simp [intOf]; omega
                · obtain rfl : k = xs.length := by omega
                  go_wp2_with fail
                  go_roundw
                  case rel => exact ⟨i + 1, by omega, by go_num, HL2.out⟩
                  case measure => simp [intOf]; omega
            · obtain rfl : i = G.length := by omega
              have HF := Lib.hid HL2.out.fr
              go_wp2_with fail
              refine (acyclic_any _ G wr (HG.out.fr0 HF.out) (by omega)).mono ?_
              rintro e w2 ⟨rfl, hf2⟩
              rw [HOK.out]
              have HF2 := Lib.hid (HF.out.trans0 hf2)
              clear hf2
              go_wp2_with fail
              refine (works_any w2).mono ?_
              rintro e w3 ⟨rfl, hf3⟩
              have HF3 := Lib.hid (HF2.out.trans0 hf3)
              clear hf3
              go_wp2_with fail
              go_ret
              exact ⟨rfl, HF3.out⟩
end Go.Proofs.Ytkeiphmhckkniaa
