/-
  Walk of WaitsParts: it answers true.
  No condition but sizes.
-/
import Derived.Test.YtkeiphmhckkniaaWtWorks
import Derived.Test.YtkeiphmhckkniaaWtPartLP
namespace Go.Proofs.Ytkeiphmhckkniaa
open Go Go.RowKit

theorem part_node {G : List (List Int)} {i k : Nat} {xs : List Int} (hx : (partsP G)[i]? = some xs) (hk : k < xs.length) : ∃ p : Nat, xs[k]? = some (p : Int) ∧ p < G.length := by
  obtain ⟨r, _, _, rfl⟩ := part_get hx
  have h1 : (ints (partOf G r))[k] ∈ ints (partOf G r) := List.getElem_mem hk
  obtain ⟨p, e, hm⟩ := mem_ints.1 h1
  exact ⟨p, by rw [List.getElem?_eq_getElem hk, e], (mem_part.1 hm).1⟩
theorem part_few {G : List (List Int)} {i : Nat} {xs : List Int} (hx : (partsP G)[i]? = some xs) : xs.length ≤ G.length := by
  obtain ⟨r, _, _, rfl⟩ := part_get hx
  rw [ints_len]; exact partOf_len G r
set_option maxRecDepth 100000 in
set_option maxHeartbeats 1000000 in
theorem wparts_any (gv : Value) (G : List (List Int)) (w : World) (h : GraphW w gv G) :
    Calls Try.prog 5 #[gv] w fun e w' => e = .returned (.bool true) ∧ Fr w w' Nil := by
  obtain ⟨ii, hii, hi0, hi1, hi2⟩ := info_parts (P := Try.prog) (e := 3) (z := .int .i64 0) (size := 1) (bytes := 8) (by kernel_rfl)
  obtain ⟨ga, gc, rfl⟩ := h.shape
  have HW := Lib.hid h
  clear h
  go_enter Try.func5, Try.ntmps5
  go_wp2_with fail
  refine (few_any _ G 20 w HW.out (by decide)).mono ?_
  rintro e w0 ⟨rfl, rfl⟩
  cases hfew : fewP G 20 with
  | false =>
    clear hfew
    go_wp2_with fail
    refine (works_any w).mono ?_
    rintro e w1 ⟨rfl, hf⟩
    have HF := Lib.hid hf
    clear hf
    go_wp2_with fail
    go_ret
    exact ⟨rfl, HF.out⟩
  | true =>
    have HG := Lib.hid (HW.out.at hfew (by decide))
    have hl := (fewP_true hfew).1
    clear hfew
    go_wp2_with fail
    refine (parts_any _ G w HG.out (by omega)).mono ?_
    rintro e w1 ⟨lv, rfl, hL1⟩
    obtain ⟨la, lc, hlv⟩ := hL1.gshapeAny 0 rfl
    have Hb2 : Hid (G.length ≤ maxLen) := by
      have : G.length ≤ maxLen := by unfold maxLen; omega
      exact this
    obtain ⟨w2, hrun, hown, hgr⟩ := run_make_full (P := Try.prog) w1 0 27 3 ii (.int .i64 0) 1 Try.underlying27 hii hi0 hi1 .i64 .i64 G.length (by rw [hi2]; omega) Hb2.out (Nat.zero_le _)
    have HL0 := Lib.hid (hL1.made hown hgr)
    have hpl := partsTo_len G G.length
    have HPLN : Hid ((partsP G).length ≤ 20) := by
      have : (partsP G).length ≤ 20 := by unfold partsP; omega
      exact this
    subst hlv
    clear hL1 hown hgr
    go_wp2_with fail
    generalize w1.heap.size = pb at HL0 ⊢
    clear hrun
    go_loopw [5, 6, 7] (fun vn vs vi wr => ∃ (i : Nat) (L : List Int), i ≤ (partsP G).length ∧ vi = .int .i64 (i : Int) ∧ vn = .int .i64 (cntP G i : Int) ∧ vs = .bool (singleB G i) ∧ InP G i 0 L ∧ Lies w wr [gT (.slice la (partsP G).length lc) (partsP G), owT (.slice (some ⟨pb, 0, none⟩) G.length G.length) L]) (fun _ _ vi _ => (partsP G).length - (intOf vi).toNat)
    case atStart => exact ⟨0, _, by omega, rfl, rfl, rfl, InP.start (by simp), HL0.out⟩
    case round =>
      obtain ⟨i, L, hi, rfl, rfl, rfl, hin, hL⟩ := hrel
      have HL := Lib.hid hL
      have HIN := Lib.hid hin
      have hcle := cntP_le G i
      clear hL hin HL0
      by_cases hlt : i < (partsP G).length
      · have hil : (i : Int) < ((partsP G).length : Int) := by omega
        have hib : i < 20 := by have := HPLN.out; omega
        obtain ⟨lb, cap, hv⟩ := HL.out.gshape 0 rfl (by omega)
        simp only [Value.slice.injEq, true_and] at hv
        obtain ⟨rfl, rfl⟩ := hv
        have hx := List.getElem?_eq_getElem hlt
        generalize (partsP G)[i] = xs at hx
        have HX := Lib.hid hx
        have hxf := part_few hx
        have HCN := Lib.hid (cntP_succ hx)
        have hc2 := cntP_le G (i + 1)
        rw [HCN.out] at hc2
        have HNODE : Hid (∀ k, k < xs.length → ∃ p : Nat, xs[k]? = some (p : Int) ∧ p < G.length) := fun k hk => part_node HX.out hk
        clear hx
        go_wp2_with fail
        go_loopw [5, 8] (fun vn vk wr => ∃ (k : Nat) (L : List Int), k ≤ xs.length ∧ vk = .int .i64 (k : Int) ∧ vn = .int .i64 ((cntP G i : Int) + (k : Int)) ∧ InP G i k L ∧ Lies w wr [gT (.slice (some ⟨lb, 0, none⟩) (partsP G).length lc) (partsP G), owT (.slice (some ⟨pb, 0, none⟩) G.length G.length) L]) (fun _ vk _ => xs.length - (intOf vk).toNat)
        case atStart => exact ⟨0, L, by omega, rfl, by simp, HIN.out, HL.out⟩
        case round =>
          obtain ⟨k, L2, hk, rfl, rfl, hin, hL2⟩ := hrel
          have HL2 := Lib.hid hL2
          have HIN2 := Lib.hid hin
          clear hL2 hin HL
          obtain ⟨xa, xc, q0, hxo, -⟩ := HL2.out.gcell 0 rfl i xs HX.out
          have HXO := Lib.hid hxo
          clear hxo
          by_cases hlt3 : k < xs.length
          · have hkl : (k : Int) < (xs.length : Int) := by omega
            obtain ⟨p, hp, hpl⟩ := HNODE.out k hlt3
            obtain ⟨xb, xc3, hv, -⟩ := HXO.out.form (by omega)
            simp only [Value.slice.injEq, true_and] at hv
            obtain ⟨rfl, rfl⟩ := hv
            have q1 := HXO.out.cell rfl k hlt3
            rw [List.getD_eq_getElem?_getD, hp] at q1
            simp only [Option.getD_some] at q1
            have hpp : (p : Int) < (G.length : Int) := by omega
            have d1 : decide (G.length ≤ p) = false := decide_eq_false (by omega)
            have HO := HL2.out.row 1 rfl
            have hL2l := HIN2.out.1
            have q2 := HO.cell hL2l.symm p (by rw [hL2l]; exact hpl)
            have f2 := HO.free hL2l.symm p
            have HPUT := Lib.hid (HIN2.out.put HX.out hp hpl)
            have HL5 := Lib.hid (HL2.out.storedI 1 rfl p (i : Int))
            have hcb : cntP G i + k < 100 := by omega
            clear hp HO hL2l
            generalize L2.getD p 0 = old at q2
            go_wp2_with fail
            go_roundw
            case rel => exact ⟨k + 1, _, by omega, by go_num, by go_num, HPUT.out, HL5.out⟩
            case measure => simp [intOf]; omega
          · obtain rfl : k = xs.length := by omega
            have HIN2 := Lib.hid (HIN2.out.next HX.out)
            cases hsi : singleB G i with
            | false =>
              have HSI := Lib.hid hsi
              clear hsi
              have HSN : Hid (singleB G (i + 1) = false) := by
                have : singleB G (i + 1) = false := by rw [singleB_succ HX.out, HSI.out]; rfl
                exact this
              go_wp2_with fail
              refine wp_region_sink 28 (fun w' : World => Fr wr w' Nil) (by kernel_rfl) ?_
              have hS : (fun w' : World => Fr wr w' Nil) wr.drew := (Fr.refl wr Nil).drew
              refine wpAnyS_take (i := 0) (v := ?_) rfl (by kernel_rfl) (fun _ _ _ h => h) (by rfl) hS ?_ ?_
              rotate_left
              · intro w' hS'
                (try dsimp only at hS')
                go_simp <;> with_reducible rfl
              try simp only [Act.put, List.setIfInBounds_toArray, List.set_cons_zero, List.set_cons_succ]
              refine wpAnyS_take (i := 1) (v := ?_) rfl (by kernel_rfl) (fun _ _ _ h => h) (by rfl) hS ?_ ?_
              rotate_left
              · intro w' hS'
                (try dsimp only at hS')
                go_simp <;> with_reducible rfl
              try simp only [Act.put, List.setIfInBounds_toArray, List.set_cons_zero, List.set_cons_succ]
              refine wpAnyS_skip (i := 2) rfl (by kernel_rfl) (fun _ _ _ h => h) (by rfl) hS ?_
              try simp only [Act.put, List.setIfInBounds_toArray, List.set_cons_zero, List.set_cons_succ]
              refine wpAnyS_skip (i := 3) rfl (by kernel_rfl) (fun _ _ _ h => h) (by rfl) hS ?_
              try simp only [Act.put, List.setIfInBounds_toArray, List.set_cons_zero, List.set_cons_succ]
              refine wpAnyS_skip (i := 4) rfl (by kernel_rfl) (fun _ _ _ h => h) (by rfl) hS ?_
              try simp only [Act.put, List.setIfInBounds_toArray, List.set_cons_zero, List.set_cons_succ]
              refine wpAnyS_skip (i := 5) rfl (by kernel_rfl) (fun _ _ _ h => h) (by rfl) hS ?_
              try simp only [Act.put, List.setIfInBounds_toArray, List.set_cons_zero, List.set_cons_succ]
              refine wpAnyS_skip (i := 6) rfl (by kernel_rfl) (fun _ _ _ h => h) (by rfl) hS ?_
              try simp only [Act.put, List.setIfInBounds_toArray, List.set_cons_zero, List.set_cons_succ]
              refine wpAnyS_skip (i := 7) rfl (by kernel_rfl) (fun _ _ _ h => h) (by rfl) hS ?_
              try simp only [Act.put, List.setIfInBounds_toArray, List.set_cons_zero, List.set_cons_succ]
              refine wpAnyS_take (i := 8) (v := ?_) rfl (by kernel_rfl) (fun _ _ _ h => h) (by rfl) hS ?_ ?_
              rotate_left
              · intro w' hS'
                (try dsimp only at hS')
                go_simp <;> with_reducible rfl
              try simp only [Act.put, List.setIfInBounds_toArray, List.set_cons_zero, List.set_cons_succ]
              refine wpAnyS_take (i := 9) (v := ?_) rfl (by kernel_rfl) (fun _ _ _ h => h) (by rfl) hS ?_ ?_
              rotate_left
              · intro w' hS'
                (try dsimp only at hS')
                go_simp <;> with_reducible rfl
              try simp only [Act.put, List.setIfInBounds_toArray, List.set_cons_zero, List.set_cons_succ]
              refine wpAnyS_skip (i := 10) rfl (by kernel_rfl) (fun _ _ _ h => h) (by rfl) hS ?_
              try simp only [Act.put, List.setIfInBounds_toArray, List.set_cons_zero, List.set_cons_succ]
              refine wpAnyS_skip (i := 11) rfl (by kernel_rfl) (fun _ _ _ h => h) (by rfl) hS ?_
              try simp only [Act.put, List.setIfInBounds_toArray, List.set_cons_zero, List.set_cons_succ]
              refine wpAnyS_skip (i := 12) rfl (by kernel_rfl) (fun _ _ _ h => h) (by rfl) hS ?_
              try simp only [Act.put, List.setIfInBounds_toArray, List.set_cons_zero, List.set_cons_succ]
              refine wpAnyS_skip (i := 13) rfl (by kernel_rfl) (fun _ _ _ h => h) (by rfl) hS ?_
              try simp only [Act.put, List.setIfInBounds_toArray, List.set_cons_zero, List.set_cons_succ]
              refine wpAnyS_skip (i := 14) rfl (by kernel_rfl) (fun _ _ _ h => h) (by rfl) hS ?_
              try simp only [Act.put, List.setIfInBounds_toArray, List.set_cons_zero, List.set_cons_succ]
              refine wpAnyS_skip (i := 15) rfl (by kernel_rfl) (fun _ _ _ h => h) (by rfl) hS ?_
              try simp only [Act.put, List.setIfInBounds_toArray, List.set_cons_zero, List.set_cons_succ]
              refine wpAnyS_skip (i := 16) rfl (by kernel_rfl) (fun _ _ _ h => h) (by rfl) hS ?_
              try simp only [Act.put, List.setIfInBounds_toArray, List.set_cons_zero, List.set_cons_succ]
              refine wpAnyS_skip (i := 17) rfl (by kernel_rfl) (fun _ _ _ h => h) (by rfl) hS ?_
              try simp only [Act.put, List.setIfInBounds_toArray, List.set_cons_zero, List.set_cons_succ]
              refine wpAnyS_skip (i := 18) rfl (by kernel_rfl) (fun _ _ _ h => h) (by rfl) hS ?_
              try simp only [Act.put, List.setIfInBounds_toArray, List.set_cons_zero, List.set_cons_succ]
              refine wpAnyS_skip (i := 19) rfl (by kernel_rfl) (fun _ _ _ h => h) (by rfl) hS ?_
              try simp only [Act.put, List.setIfInBounds_toArray, List.set_cons_zero, List.set_cons_succ]
              refine wpAnyS_skip (i := 20) rfl (by kernel_rfl) (fun _ _ _ h => h) (by rfl) hS ?_
              try simp only [Act.put, List.setIfInBounds_toArray, List.set_cons_zero, List.set_cons_succ]
              refine wpAnyS_skip (i := 21) rfl (by kernel_rfl) (fun _ _ _ h => h) (by rfl) hS ?_
              try simp only [Act.put, List.setIfInBounds_toArray, List.set_cons_zero, List.set_cons_succ]
              refine wpAnyS_skip (i := 22) rfl (by kernel_rfl) (fun _ _ _ h => h) (by rfl) hS ?_
              try simp only [Act.put, List.setIfInBounds_toArray, List.set_cons_zero, List.set_cons_succ]
              refine wpAnyS_skip (i := 23) rfl (by kernel_rfl) (fun _ _ _ h => h) (by rfl) hS ?_
              try simp only [Act.put, List.setIfInBounds_toArray, List.set_cons_zero, List.set_cons_succ]
              refine wpAnyS_skip (i := 24) rfl (by kernel_rfl) (fun _ _ _ h => h) (by rfl) hS ?_
              try simp only [Act.put, List.setIfInBounds_toArray, List.set_cons_zero, List.set_cons_succ]
              refine wpAnyS_skip (i := 25) rfl (by kernel_rfl) (fun _ _ _ h => h) (by rfl) hS ?_
              try simp only [Act.put, List.setIfInBounds_toArray, List.set_cons_zero, List.set_cons_succ]
              refine wpAnyS_skip (i := 26) rfl (by kernel_rfl) (fun _ _ _ h => h) (by rfl) hS ?_
              try simp only [Act.put, List.setIfInBounds_toArray, List.set_cons_zero, List.set_cons_succ]
              refine wpAnyS_take (i := 27) (v := ?_) rfl (by kernel_rfl) (fun _ _ _ h => h) (by rfl) hS ?_ ?_
              rotate_left
              · intro w' hS'
                (try dsimp only at hS')
                go_simp <;> with_reducible rfl
              try simp only [Act.put, List.setIfInBounds_toArray, List.set_cons_zero, List.set_cons_succ]
              refine wpAnyS_last (i := 28) rfl (by kernel_rfl) (by decide) (by kernel_rfl) (by rfl) fun K hK => ?_
              go_simp
              refine hK.out _ _ ?_
              clear hK K
              have HL5 := Lib.hid (HL2.out.fr0 hS)
              clear hS
              generalize wr.drew = w9 at *
              go_wp2_with fail
              go_roundw
              case rel => exact ⟨i + 1, L2, by omega, by go_num, by rw [HCN.out]; go_num, by rw [HSN.out], HIN2.out, HL5.out⟩
              case measure => simp [intOf]; omega
            | true =>
              have HSI := Lib.hid hsi
              clear hsi
              by_cases hl1 : xs.length = 1
              · obtain ⟨p, hp, hpl⟩ := HNODE.out 0 (by omega)
                obtain ⟨xb, xc3, hv, -⟩ := HXO.out.form (by omega)
                simp only [Value.slice.injEq, true_and] at hv
                obtain ⟨rfl, rfl⟩ := hv
                have q1 := HXO.out.cell rfl 0 (by omega)
                rw [List.getD_eq_getElem?_getD, hp] at q1
                simp only [Option.getD_some] at q1
                have hpp : (p : Int) < (G.length : Int) := by omega
                obtain ⟨gb, go, gcap, hv, hc⟩ := HG.out.form (by omega)
                simp only [Value.slice.injEq, true_and] at hv
                obtain ⟨rfl, rfl⟩ := hv
                obtain ⟨u, hu, hyu, hyl⟩ := hc p _ (List.getElem?_eq_getElem hpl)
                have q2 := HL2.out.fr.cell hu (fun h => h)
                have HYU := Lib.hid (hyu.fr HL2.out.fr (fun _ _ h => h))
                have hone : oneB G xs = !(G[p]).contains (p : Int) := by
                  have e1 : xs.getD 0 0 = (p : Int) := by rw [List.getD_eq_getElem?_getD, hp]; rfl
                  unfold oneB
                  rw [decide_eq_true hl1, e1, Int.toNat_natCast, List.getD_eq_getElem?_getD, List.getElem?_eq_getElem hpl]; rfl
                generalize G[p] = ys at *
                obtain ⟨dd, hdd⟩ : ∃ dd, ys.contains (p : Int) = dd := ⟨_, rfl⟩
                rw [hdd] at hone
                have HYP := Lib.hid hdd
                have HONE := Lib.hid hone
                rw [hl1] at q0 HCN ⊢
                clear hc hu hyu hone hp hdd
                have HSN : Hid (singleB G (i + 1) = (!dd)) := by
                  have : singleB G (i + 1) = (!dd) := by rw [singleB_succ HX.out, HSI.out, HONE.out]; rfl
                  exact this
                go_wp2_with fail
                refine wp_region_sink 28 (fun w' : World => Fr wr w' Nil ∧ w'.cell? ⟨lb, i, none⟩ = some (.slice (some ⟨xb, 0, none⟩) 1 xc) ∧ w'.cell? ⟨xb, 0, none⟩ = some (.int .i64 (p : Int)) ∧ w'.cell? ⟨gb, go + p, none⟩ = some u) (by kernel_rfl) ?_
                have hS : (fun w' : World => Fr wr w' Nil ∧ w'.cell? ⟨lb, i, none⟩ = some (.slice (some ⟨xb, 0, none⟩) 1 xc) ∧ w'.cell? ⟨xb, 0, none⟩ = some (.int .i64 (p : Int)) ∧ w'.cell? ⟨gb, go + p, none⟩ = some u) wr.drew := ⟨(Fr.refl wr Nil).drew, q0, q1, q2⟩
                refine wpAnyS_take (i := 0) (v := ?_) rfl (by kernel_rfl) (fun _ _ _ h => h) (by rfl) hS ?_ ?_
                rotate_left
                · intro w' hS'
                  (try dsimp only at hS')
                  go_simp <;> with_reducible rfl
                try simp only [Act.put, List.setIfInBounds_toArray, List.set_cons_zero, List.set_cons_succ]
                refine wpAnyS_take (i := 1) (v := ?_) rfl (by kernel_rfl) (fun _ _ _ h => h) (by rfl) hS ?_ ?_
                rotate_left
                · intro w' hS'
                  (try dsimp only at hS')
                  go_simp <;> with_reducible rfl
                try simp only [Act.put, List.setIfInBounds_toArray, List.set_cons_zero, List.set_cons_succ]
                refine wpAnyS_take (i := 2) (v := ?_) rfl (by kernel_rfl) (fun _ _ _ h => h) (by rfl) hS ?_ ?_
                rotate_left
                · intro w' hS'
                  (try dsimp only at hS')
                  go_simp <;> with_reducible rfl
                try simp only [Act.put, List.setIfInBounds_toArray, List.set_cons_zero, List.set_cons_succ]
                refine wpAnyS_take (i := 3) (v := ?_) rfl (by kernel_rfl) (fun _ _ _ h => h) (by rfl) hS ?_ ?_
                rotate_left
                · intro w' hS'
                  (try dsimp only at hS')
                  go_simp <;> with_reducible rfl
                try simp only [Act.put, List.setIfInBounds_toArray, List.set_cons_zero, List.set_cons_succ]
                refine wpAnyS_take (i := 4) (v := ?_) rfl (by kernel_rfl) (fun _ _ _ h => h) (by rfl) hS ?_ ?_
                rotate_left
                · intro w' hS'
                  (try dsimp only at hS')
                  go_simp <;> with_reducible rfl
                try simp only [Act.put, List.setIfInBounds_toArray, List.set_cons_zero, List.set_cons_succ]
                refine wpAnyS_take (i := 5) (v := ?_) rfl (by kernel_rfl) (fun _ _ _ h => h) (by rfl) hS ?_ ?_
                rotate_left
                · intro w' hS'
                  (try dsimp only at hS')
                  go_simp <;> with_reducible rfl
                try simp only [Act.put, List.setIfInBounds_toArray, List.set_cons_zero, List.set_cons_succ]
                refine wpAnyS_take (i := 6) (v := ?_) rfl (by kernel_rfl) (fun _ _ _ h => h) (by rfl) hS ?_ ?_
                rotate_left
                · intro w' hS'
                  (try dsimp only at hS')
                  go_simp <;> with_reducible rfl
                try simp only [Act.put, List.setIfInBounds_toArray, List.set_cons_zero, List.set_cons_succ]
                refine wpAnyS_take (i := 7) (v := ?_) rfl (by kernel_rfl) (fun _ _ _ h => h) (by rfl) hS ?_ ?_
                rotate_left
                · intro w' hS'
                  (try dsimp only at hS')
                  go_simp <;> with_reducible rfl
                try simp only [Act.put, List.setIfInBounds_toArray, List.set_cons_zero, List.set_cons_succ]
                refine wpAnyS_take (i := 8) (v := ?_) rfl (by kernel_rfl) (fun _ _ _ h => h) (by rfl) hS ?_ ?_
                rotate_left
                · intro w' hS'
                  (try dsimp only at hS')
                  go_simp <;> with_reducible rfl
                try simp only [Act.put, List.setIfInBounds_toArray, List.set_cons_zero, List.set_cons_succ]
                refine wpAnyS_take (i := 9) (v := ?_) rfl (by kernel_rfl) (fun _ _ _ h => h) (by rfl) hS ?_ ?_
                rotate_left
                · intro w' hS'
                  (try dsimp only at hS')
                  go_simp <;> with_reducible rfl
                try simp only [Act.put, List.setIfInBounds_toArray, List.set_cons_zero, List.set_cons_succ]
                refine wpAnyS_take (i := 10) (v := ?_) rfl (by kernel_rfl) (fun _ _ _ h => h) (by rfl) hS ?_ ?_
                rotate_left
                · intro w' hS'
                  (try dsimp only at hS')
                  go_simp <;> with_reducible rfl
                try simp only [Act.put, List.setIfInBounds_toArray, List.set_cons_zero, List.set_cons_succ]
                refine wpAnyS_take (i := 11) (v := ?_) rfl (by kernel_rfl) (fun _ _ _ h => h) (by rfl) hS ?_ ?_
                rotate_left
                · intro w' hS'
                  (try dsimp only at hS')
                  go_simp <;> with_reducible rfl
                try simp only [Act.put, List.setIfInBounds_toArray, List.set_cons_zero, List.set_cons_succ]
                refine wpAnyS_take (i := 12) (v := ?_) rfl (by kernel_rfl) (fun _ _ _ h => h) (by rfl) hS ?_ ?_
                rotate_left
                · intro w' hS'
                  (try dsimp only at hS')
                  go_simp <;> with_reducible rfl
                try simp only [Act.put, List.setIfInBounds_toArray, List.set_cons_zero, List.set_cons_succ]
                refine wpAnyS_take (i := 13) (v := ?_) rfl (by kernel_rfl) (fun _ _ _ h => h) (by rfl) hS ?_ ?_
                rotate_left
                · intro w' hS'
                  (try dsimp only at hS')
                  go_simp <;> with_reducible rfl
                try simp only [Act.put, List.setIfInBounds_toArray, List.set_cons_zero, List.set_cons_succ]
                refine wpAnyS_take (i := 14) (v := ?_) rfl (by kernel_rfl) (fun _ _ _ h => h) (by rfl) hS ?_ ?_
                rotate_left
                · intro w' hS'
                  (try dsimp only at hS')
                  go_simp <;> with_reducible rfl
                try simp only [Act.put, List.setIfInBounds_toArray, List.set_cons_zero, List.set_cons_succ]
                refine wpAnyS_take (i := 15) (v := ?_) rfl (by kernel_rfl) (fun _ _ _ h => h) (by rfl) hS ?_ ?_
                rotate_left
                · intro w' hS'
                  (try dsimp only at hS')
                  go_simp <;> with_reducible rfl
                try simp only [Act.put, List.setIfInBounds_toArray, List.set_cons_zero, List.set_cons_succ]
                refine wpAnyS_take (i := 16) (v := ?_) rfl (by kernel_rfl) (fun _ _ _ h => h) (by rfl) hS ?_ ?_
                rotate_left
                · intro w' hS'
                  (try dsimp only at hS')
                  go_simp <;> with_reducible rfl
                try simp only [Act.put, List.setIfInBounds_toArray, List.set_cons_zero, List.set_cons_succ]
                refine wpAnyS_take (i := 17) (v := ?_) rfl (by kernel_rfl) (fun _ _ _ h => h) (by rfl) hS ?_ ?_
                rotate_left
                · intro w' hS'
                  (try dsimp only at hS')
                  go_simp <;> with_reducible rfl
                try simp only [Act.put, List.setIfInBounds_toArray, List.set_cons_zero, List.set_cons_succ]
                refine wpAnyS_take (i := 18) (v := ?_) rfl (by kernel_rfl) (fun _ _ _ h => h) (by rfl) hS ?_ ?_
                rotate_left
                · intro w' hS'
                  (try dsimp only at hS')
                  go_simp <;> with_reducible rfl
                try simp only [Act.put, List.setIfInBounds_toArray, List.set_cons_zero, List.set_cons_succ]
                refine wpAnyS_take (i := 19) (v := ?_) rfl (by kernel_rfl) (fun _ _ _ h => h) (by rfl) hS ?_ ?_
                rotate_left
                · intro w' hS'
                  (try dsimp only at hS')
                  go_simp <;> with_reducible rfl
                try simp only [Act.put, List.setIfInBounds_toArray, List.set_cons_zero, List.set_cons_succ]
                refine wpAnyS_take (i := 20) (v := ?_) rfl (by kernel_rfl) (fun _ _ _ h => h) (by rfl) hS ?_ ?_
                rotate_left
                · intro w' hS'
                  (try dsimp only at hS')
                  go_simp <;> with_reducible rfl
                try simp only [Act.put, List.setIfInBounds_toArray, List.set_cons_zero, List.set_cons_succ]
                refine wpAnyS_take (i := 21) (v := ?_) rfl (by kernel_rfl) (fun _ _ _ h => h) (by rfl) hS ?_ ?_
                rotate_left
                · intro w' hS'
                  (try dsimp only at hS')
                  go_simp <;> with_reducible rfl
                try simp only [Act.put, List.setIfInBounds_toArray, List.set_cons_zero, List.set_cons_succ]
                refine wpAnyS_take (i := 22) (v := ?_) rfl (by kernel_rfl) (fun _ _ _ h => h) (by rfl) hS ?_ ?_
                rotate_left
                · intro w' hS'
                  (try dsimp only at hS')
                  go_simp <;> with_reducible rfl
                try simp only [Act.put, List.setIfInBounds_toArray, List.set_cons_zero, List.set_cons_succ]
                refine wpAnyS_take (i := 23) (v := ?_) rfl (by kernel_rfl) (fun _ _ _ h => h) (by rfl) hS ?_ ?_
                rotate_left
                · intro w' hS'
                  (try dsimp only at hS')
                  go_simp <;> with_reducible rfl
                try simp only [Act.put, List.setIfInBounds_toArray, List.set_cons_zero, List.set_cons_succ]
                refine wpAnyS_take (i := 24) (v := ?_) rfl (by kernel_rfl) (fun _ _ _ h => h) (by rfl) hS ?_ ?_
                rotate_left
                · intro w' hS'
                  (try dsimp only at hS')
                  go_simp <;> with_reducible rfl
                try simp only [Act.put, List.setIfInBounds_toArray, List.set_cons_zero, List.set_cons_succ]
                refine wpAnyS_one (i := 25) rfl (by kernel_rfl) (by decide) (by rfl) fun K hK => ?_
                go_simp
                refine (has_any u ys (p : Int) _ (HYU.out.fr hS.1 (fun _ _ h => h)) hyl).mono ?_
                rintro e w4 ⟨rfl, rfl⟩
                rw [HYP.out]
                refine hK.out _ _ hS ?_
                clear hK K
                try simp only [Act.put, List.setIfInBounds_toArray, List.set_cons_zero, List.set_cons_succ]
                refine wpAnyS_take (i := 26) (v := ?_) rfl (by kernel_rfl) (fun _ _ _ h => h) (by rfl) hS ?_ ?_
                rotate_left
                · intro w' hS'
                  (try dsimp only at hS')
                  go_simp <;> with_reducible rfl
                try simp only [Act.put, List.setIfInBounds_toArray, List.set_cons_zero, List.set_cons_succ]
                refine wpAnyS_take (i := 27) (v := ?_) rfl (by kernel_rfl) (fun _ _ _ h => h) (by rfl) hS ?_ ?_
                rotate_left
                · intro w' hS'
                  (try dsimp only at hS')
                  go_simp <;> with_reducible rfl
                try simp only [Act.put, List.setIfInBounds_toArray, List.set_cons_zero, List.set_cons_succ]
                refine wpAnyS_last (i := 28) rfl (by kernel_rfl) (by decide) (by kernel_rfl) (by rfl) fun K hK => ?_
                go_simp
                refine hK.out _ _ ?_
                clear hK K
                have HL5 := Lib.hid (HL2.out.fr0 hS.1)
                clear hS
                generalize wr.drew = w9 at *
                go_wp2_with fail
                go_roundw
                case rel => exact ⟨i + 1, L2, by omega, by go_num, by rw [HCN.out]; go_num, by rw [HSN.out], HIN2.out, HL5.out⟩
                case measure => simp [intOf]; omega
              · have hne : ((xs.length : Int) == 1) = false := by simp; omega
                have HSN : Hid (singleB G (i + 1) = false) := by
                  have : singleB G (i + 1) = false := by rw [singleB_succ HX.out, HSI.out]; unfold oneB; rw [decide_eq_false hl1]; rfl
                  exact this
                go_wp2_with fail
                refine wp_region_sink 28 (fun w' : World => Fr wr w' Nil ∧ w'.cell? ⟨lb, i, none⟩ = some (.slice xa xs.length xc)) (by kernel_rfl) ?_
                have hS : (fun w' : World => Fr wr w' Nil ∧ w'.cell? ⟨lb, i, none⟩ = some (.slice xa xs.length xc)) wr.drew := ⟨(Fr.refl wr Nil).drew, q0⟩
                refine wpAnyS_take (i := 0) (v := ?_) rfl (by kernel_rfl) (fun _ _ _ h => h) (by rfl) hS ?_ ?_
                rotate_left
                · intro w' hS'
                  (try dsimp only at hS')
                  go_simp <;> with_reducible rfl
                try simp only [Act.put, List.setIfInBounds_toArray, List.set_cons_zero, List.set_cons_succ]
                refine wpAnyS_take (i := 1) (v := ?_) rfl (by kernel_rfl) (fun _ _ _ h => h) (by rfl) hS ?_ ?_
                rotate_left
                · intro w' hS'
                  (try dsimp only at hS')
                  go_simp <;> with_reducible rfl
                try simp only [Act.put, List.setIfInBounds_toArray, List.set_cons_zero, List.set_cons_succ]
                refine wpAnyS_take (i := 2) (v := ?_) rfl (by kernel_rfl) (fun _ _ _ h => h) (by rfl) hS ?_ ?_
                rotate_left
                · intro w' hS'
                  (try dsimp only at hS')
                  go_simp <;> with_reducible rfl
                try simp only [Act.put, List.setIfInBounds_toArray, List.set_cons_zero, List.set_cons_succ]
                refine wpAnyS_take (i := 3) (v := ?_) rfl (by kernel_rfl) (fun _ _ _ h => h) (by rfl) hS ?_ ?_
                rotate_left
                · intro w' hS'
                  (try dsimp only at hS')
                  go_simp <;> with_reducible rfl
                try simp only [Act.put, List.setIfInBounds_toArray, List.set_cons_zero, List.set_cons_succ]
                refine wpAnyS_take (i := 4) (v := ?_) rfl (by kernel_rfl) (fun _ _ _ h => h) (by rfl) hS ?_ ?_
                rotate_left
                · intro w' hS'
                  (try dsimp only at hS')
                  go_simp <;> with_reducible rfl
                try simp only [Act.put, List.setIfInBounds_toArray, List.set_cons_zero, List.set_cons_succ]
                refine wpAnyS_take (i := 5) (v := ?_) rfl (by kernel_rfl) (fun _ _ _ h => h) (by rfl) hS ?_ ?_
                rotate_left
                · intro w' hS'
                  (try dsimp only at hS')
                  go_simp <;> with_reducible rfl
                try simp only [Act.put, List.setIfInBounds_toArray, List.set_cons_zero, List.set_cons_succ]
                refine wpAnyS_take (i := 6) (v := ?_) rfl (by kernel_rfl) (fun _ _ _ h => h) (by rfl) hS ?_ ?_
                rotate_left
                · intro w' hS'
                  (try dsimp only at hS')
                  go_simp <;> with_reducible rfl
                try simp only [Act.put, List.setIfInBounds_toArray, List.set_cons_zero, List.set_cons_succ]
                refine wpAnyS_take (i := 7) (v := ?_) rfl (by kernel_rfl) (fun _ _ _ h => h) (by rfl) hS ?_ ?_
                rotate_left
                · intro w' hS'
                  (try dsimp only at hS')
                  go_simp <;> with_reducible rfl
                try simp only [Act.put, List.setIfInBounds_toArray, List.set_cons_zero, List.set_cons_succ]
                refine wpAnyS_take (i := 8) (v := ?_) rfl (by kernel_rfl) (fun _ _ _ h => h) (by rfl) hS ?_ ?_
                rotate_left
                · intro w' hS'
                  (try dsimp only at hS')
                  go_simp <;> with_reducible rfl
                try simp only [Act.put, List.setIfInBounds_toArray, List.set_cons_zero, List.set_cons_succ]
                refine wpAnyS_take (i := 9) (v := ?_) rfl (by kernel_rfl) (fun _ _ _ h => h) (by rfl) hS ?_ ?_
                rotate_left
                · intro w' hS'
                  (try dsimp only at hS')
                  go_simp <;> with_reducible rfl
                try simp only [Act.put, List.setIfInBounds_toArray, List.set_cons_zero, List.set_cons_succ]
                refine wpAnyS_skip (i := 10) rfl (by kernel_rfl) (fun _ _ _ h => h) (by rfl) hS ?_
                try simp only [Act.put, List.setIfInBounds_toArray, List.set_cons_zero, List.set_cons_succ]
                refine wpAnyS_skip (i := 11) rfl (by kernel_rfl) (fun _ _ _ h => h) (by rfl) hS ?_
                try simp only [Act.put, List.setIfInBounds_toArray, List.set_cons_zero, List.set_cons_succ]
                refine wpAnyS_skip (i := 12) rfl (by kernel_rfl) (fun _ _ _ h => h) (by rfl) hS ?_
                try simp only [Act.put, List.setIfInBounds_toArray, List.set_cons_zero, List.set_cons_succ]
                refine wpAnyS_skip (i := 13) rfl (by kernel_rfl) (fun _ _ _ h => h) (by rfl) hS ?_
                try simp only [Act.put, List.setIfInBounds_toArray, List.set_cons_zero, List.set_cons_succ]
                refine wpAnyS_skip (i := 14) rfl (by kernel_rfl) (fun _ _ _ h => h) (by rfl) hS ?_
                try simp only [Act.put, List.setIfInBounds_toArray, List.set_cons_zero, List.set_cons_succ]
                refine wpAnyS_skip (i := 15) rfl (by kernel_rfl) (fun _ _ _ h => h) (by rfl) hS ?_
                try simp only [Act.put, List.setIfInBounds_toArray, List.set_cons_zero, List.set_cons_succ]
                refine wpAnyS_skip (i := 16) rfl (by kernel_rfl) (fun _ _ _ h => h) (by rfl) hS ?_
                try simp only [Act.put, List.setIfInBounds_toArray, List.set_cons_zero, List.set_cons_succ]
                refine wpAnyS_skip (i := 17) rfl (by kernel_rfl) (fun _ _ _ h => h) (by rfl) hS ?_
                try simp only [Act.put, List.setIfInBounds_toArray, List.set_cons_zero, List.set_cons_succ]
                refine wpAnyS_skip (i := 18) rfl (by kernel_rfl) (fun _ _ _ h => h) (by rfl) hS ?_
                try simp only [Act.put, List.setIfInBounds_toArray, List.set_cons_zero, List.set_cons_succ]
                refine wpAnyS_skip (i := 19) rfl (by kernel_rfl) (fun _ _ _ h => h) (by rfl) hS ?_
                try simp only [Act.put, List.setIfInBounds_toArray, List.set_cons_zero, List.set_cons_succ]
                refine wpAnyS_skip (i := 20) rfl (by kernel_rfl) (fun _ _ _ h => h) (by rfl) hS ?_
                try simp only [Act.put, List.setIfInBounds_toArray, List.set_cons_zero, List.set_cons_succ]
                refine wpAnyS_skip (i := 21) rfl (by kernel_rfl) (fun _ _ _ h => h) (by rfl) hS ?_
                try simp only [Act.put, List.setIfInBounds_toArray, List.set_cons_zero, List.set_cons_succ]
                refine wpAnyS_skip (i := 22) rfl (by kernel_rfl) (fun _ _ _ h => h) (by rfl) hS ?_
                try simp only [Act.put, List.setIfInBounds_toArray, List.set_cons_zero, List.set_cons_succ]
                refine wpAnyS_skip (i := 23) rfl (by kernel_rfl) (fun _ _ _ h => h) (by rfl) hS ?_
                try simp only [Act.put, List.setIfInBounds_toArray, List.set_cons_zero, List.set_cons_succ]
                refine wpAnyS_skip (i := 24) rfl (by kernel_rfl) (fun _ _ _ h => h) (by rfl) hS ?_
                try simp only [Act.put, List.setIfInBounds_toArray, List.set_cons_zero, List.set_cons_succ]
                refine wpAnyS_skip (i := 25) rfl (by kernel_rfl) (fun _ _ _ h => h) (by rfl) hS ?_
                try simp only [Act.put, List.setIfInBounds_toArray, List.set_cons_zero, List.set_cons_succ]
                refine wpAnyS_skip (i := 26) rfl (by kernel_rfl) (fun _ _ _ h => h) (by rfl) hS ?_
                try simp only [Act.put, List.setIfInBounds_toArray, List.set_cons_zero, List.set_cons_succ]
                refine wpAnyS_take (i := 27) (v := ?_) rfl (by kernel_rfl) (fun _ _ _ h => h) (by rfl) hS ?_ ?_
                rotate_left
                · intro w' hS'
                  (try dsimp only at hS')
                  go_simp <;> with_reducible rfl
                try simp only [Act.put, List.setIfInBounds_toArray, List.set_cons_zero, List.set_cons_succ]
                refine wpAnyS_last (i := 28) rfl (by kernel_rfl) (by decide) (by kernel_rfl) (by rfl) fun K hK => ?_
                go_simp
                refine hK.out _ _ ?_
                clear hK K
                have HL5 := Lib.hid (HL2.out.fr0 hS.1)
                clear hS
                generalize wr.drew = w9 at *
                go_wp2_with fail
                go_roundw
                case rel => exact ⟨i + 1, L2, by omega, by go_num, by rw [HCN.out]; go_num, by rw [HSN.out], HIN2.out, HL5.out⟩
                case measure => simp [intOf]; omega
      · obtain rfl : i = (partsP G).length := by omega
        have HSA := Lib.hid (single_acyc G)
        have HCA := Lib.hid (cntP_all G)
        rw [HCA.out, HSA.out]
        go_wp2_with fail
        go_loopw [9] (fun va wr => ∃ a : Nat, a ≤ G.length ∧ va = .int .i64 (a : Int) ∧ Lies w wr [gT (.slice la (partsP G).length lc) (partsP G), owT (.slice (some ⟨pb, 0, none⟩) G.length G.length) L]) (fun va _ => G.length - (intOf va).toNat)
        case atStart => exact ⟨0, by omega, rfl, HL.out⟩
        case round =>
          obtain ⟨a, han, rfl, hL3⟩ := hrel
          have HL3 := Lib.hid hL3
          clear hL3 HL
          by_cases hla : a < G.length
          · have hal : (a : Int) < (G.length : Int) := by omega
            go_wp2_with fail
            go_loopw [10] (fun vb wr => ∃ b : Nat, b ≤ G.length ∧ vb = .int .i64 (b : Int) ∧ Lies w wr [gT (.slice la (partsP G).length lc) (partsP G), owT (.slice (some ⟨pb, 0, none⟩) G.length G.length) L]) (fun vb _ => G.length - (intOf vb).toNat)
            case atStart => exact ⟨0, by omega, rfl, HL3.out⟩
            case round =>
              obtain ⟨b, hbn, rfl, hL4⟩ := hrel
              have HL3 := Lib.hid hL4
              clear hL4
              by_cases hlb : b < G.length
              · have hbl : (b : Int) < (G.length : Int) := by omega
                by_cases hab : a = b
                · subst hab
                  go_wp2_with fail
                  refine wp_region_sink 26 (fun w' : World => Fr wr w' Nil) (by kernel_rfl) ?_
                  have hS : (fun w' : World => Fr wr w' Nil) wr.drew := (Fr.refl wr Nil).drew
                  refine wpAnyS_take (i := 0) (v := ?_) rfl (by kernel_rfl) (fun _ _ _ h => h) (by rfl) hS ?_ ?_
                  rotate_left
                  · intro w' hS'
                    (try dsimp only at hS')
                    go_simp <;> with_reducible rfl
                  try simp only [Act.put, List.setIfInBounds_toArray, List.set_cons_zero, List.set_cons_succ]
                  refine wpAnyS_take (i := 1) (v := ?_) rfl (by kernel_rfl) (fun _ _ _ h => h) (by rfl) hS ?_ ?_
                  rotate_left
                  · intro w' hS'
                    (try dsimp only at hS')
                    go_simp <;> with_reducible rfl
                  try simp only [Act.put, List.setIfInBounds_toArray, List.set_cons_zero, List.set_cons_succ]
                  refine wpAnyS_take (i := 2) (v := ?_) rfl (by kernel_rfl) (fun _ _ _ h => h) (by rfl) hS ?_ ?_
                  rotate_left
                  · intro w' hS'
                    (try dsimp only at hS')
                    go_simp <;> with_reducible rfl
                  try simp only [Act.put, List.setIfInBounds_toArray, List.set_cons_zero, List.set_cons_succ]
                  refine wpAnyS_take (i := 3) (v := ?_) rfl (by kernel_rfl) (fun _ _ _ h => h) (by rfl) hS ?_ ?_
                  rotate_left
                  · intro w' hS'
                    (try dsimp only at hS')
                    go_simp <;> with_reducible rfl
                  try simp only [Act.put, List.setIfInBounds_toArray, List.set_cons_zero, List.set_cons_succ]
                  refine wpAnyS_skip (i := 4) rfl (by kernel_rfl) (fun _ _ _ h => h) (by rfl) hS ?_
                  try simp only [Act.put, List.setIfInBounds_toArray, List.set_cons_zero, List.set_cons_succ]
                  refine wpAnyS_skip (i := 5) rfl (by kernel_rfl) (fun _ _ _ h => h) (by rfl) hS ?_
                  try simp only [Act.put, List.setIfInBounds_toArray, List.set_cons_zero, List.set_cons_succ]
                  refine wpAnyS_skip (i := 6) rfl (by kernel_rfl) (fun _ _ _ h => h) (by rfl) hS ?_
                  try simp only [Act.put, List.setIfInBounds_toArray, List.set_cons_zero, List.set_cons_succ]
                  refine wpAnyS_skip (i := 7) rfl (by kernel_rfl) (fun _ _ _ h => h) (by rfl) hS ?_
                  try simp only [Act.put, List.setIfInBounds_toArray, List.set_cons_zero, List.set_cons_succ]
                  refine wpAnyS_skip (i := 8) rfl (by kernel_rfl) (fun _ _ _ h => h) (by rfl) hS ?_
                  try simp only [Act.put, List.setIfInBounds_toArray, List.set_cons_zero, List.set_cons_succ]
                  refine wpAnyS_skip (i := 9) rfl (by kernel_rfl) (fun _ _ _ h => h) (by rfl) hS ?_
                  try simp only [Act.put, List.setIfInBounds_toArray, List.set_cons_zero, List.set_cons_succ]
                  refine wpAnyS_skip (i := 10) rfl (by kernel_rfl) (fun _ _ _ h => h) (by rfl) hS ?_
                  try simp only [Act.put, List.setIfInBounds_toArray, List.set_cons_zero, List.set_cons_succ]
                  refine wpAnyS_skip (i := 11) rfl (by kernel_rfl) (fun _ _ _ h => h) (by rfl) hS ?_
                  try simp only [Act.put, List.setIfInBounds_toArray, List.set_cons_zero, List.set_cons_succ]
                  refine wpAnyS_skip (i := 12) rfl (by kernel_rfl) (fun _ _ _ h => h) (by rfl) hS ?_
                  try simp only [Act.put, List.setIfInBounds_toArray, List.set_cons_zero, List.set_cons_succ]
                  refine wpAnyS_skip (i := 13) rfl (by kernel_rfl) (fun _ _ _ h => h) (by rfl) hS ?_
                  try simp only [Act.put, List.setIfInBounds_toArray, List.set_cons_zero, List.set_cons_succ]
                  refine wpAnyS_skip (i := 14) rfl (by kernel_rfl) (fun _ _ _ h => h) (by rfl) hS ?_
                  try simp only [Act.put, List.setIfInBounds_toArray, List.set_cons_zero, List.set_cons_succ]
                  refine wpAnyS_skip (i := 15) rfl (by kernel_rfl) (fun _ _ _ h => h) (by rfl) hS ?_
                  try simp only [Act.put, List.setIfInBounds_toArray, List.set_cons_zero, List.set_cons_succ]
                  refine wpAnyS_skip (i := 16) rfl (by kernel_rfl) (fun _ _ _ h => h) (by rfl) hS ?_
                  try simp only [Act.put, List.setIfInBounds_toArray, List.set_cons_zero, List.set_cons_succ]
                  refine wpAnyS_skip (i := 17) rfl (by kernel_rfl) (fun _ _ _ h => h) (by rfl) hS ?_
                  try simp only [Act.put, List.setIfInBounds_toArray, List.set_cons_zero, List.set_cons_succ]
                  refine wpAnyS_skip (i := 18) rfl (by kernel_rfl) (fun _ _ _ h => h) (by rfl) hS ?_
                  try simp only [Act.put, List.setIfInBounds_toArray, List.set_cons_zero, List.set_cons_succ]
                  refine wpAnyS_skip (i := 19) rfl (by kernel_rfl) (fun _ _ _ h => h) (by rfl) hS ?_
                  try simp only [Act.put, List.setIfInBounds_toArray, List.set_cons_zero, List.set_cons_succ]
                  refine wpAnyS_skip (i := 20) rfl (by kernel_rfl) (fun _ _ _ h => h) (by rfl) hS ?_
                  try simp only [Act.put, List.setIfInBounds_toArray, List.set_cons_zero, List.set_cons_succ]
                  refine wpAnyS_skip (i := 21) rfl (by kernel_rfl) (fun _ _ _ h => h) (by rfl) hS ?_
                  try simp only [Act.put, List.setIfInBounds_toArray, List.set_cons_zero, List.set_cons_succ]
                  refine wpAnyS_skip (i := 22) rfl (by kernel_rfl) (fun _ _ _ h => h) (by rfl) hS ?_
                  try simp only [Act.put, List.setIfInBounds_toArray, List.set_cons_zero, List.set_cons_succ]
                  refine wpAnyS_skip (i := 23) rfl (by kernel_rfl) (fun _ _ _ h => h) (by rfl) hS ?_
                  try simp only [Act.put, List.setIfInBounds_toArray, List.set_cons_zero, List.set_cons_succ]
                  refine wpAnyS_skip (i := 24) rfl (by kernel_rfl) (fun _ _ _ h => h) (by rfl) hS ?_
                  try simp only [Act.put, List.setIfInBounds_toArray, List.set_cons_zero, List.set_cons_succ]
                  refine wpAnyS_skip (i := 25) rfl (by kernel_rfl) (fun _ _ _ h => h) (by rfl) hS ?_
                  try simp only [Act.put, List.setIfInBounds_toArray, List.set_cons_zero, List.set_cons_succ]
                  refine wpAnyS_last (i := 26) rfl (by kernel_rfl) (by decide) (by kernel_rfl) (by rfl) fun K hK => ?_
                  go_simp
                  refine hK.out _ _ ?_
                  clear hK K
                  have HL5 := Lib.hid (HL3.out.fr0 hS)
                  clear hS
                  generalize wr.drew = w9 at *
                  go_wp2_with fail
                  go_roundw
                  case rel => exact ⟨a + 1, by omega, by go_num, HL5.out⟩
                  case measure => simp [intOf]; omega
                · have hne : ((a : Int) != (b : Int)) = true := by simp; omega
                  have hsm := HIN.out.same hla hlb
                  have hev : eqvB G a b = (wayP G a b && wayP G b a) := by unfold eqvB; rw [decide_eq_false hab, Bool.false_or]
                  rw [hev] at hsm
                  have HO := HL3.out.row 1 rfl
                  have hLl := HIN.out.1
                  have q0 := HO.cell hLl.symm a (by rw [hLl]; exact hla)
                  have q1 := HO.cell hLl.symm b (by rw [hLl]; exact hlb)
                  generalize L.getD a 0 = va at *
                  generalize L.getD b 0 = vb at *
                  clear hev HO hLl hab
                  cases hw1 : wayP G a b with
                  | false =>
                    have HW1 := Lib.hid hw1
                    rw [hw1, Bool.false_and] at hsm
                    clear hw1
                    go_wp2_with fail
                    refine wp_region_sink 26 (fun w' : World => Fr wr w' Nil ∧ w'.cell? ⟨pb, a, none⟩ = some (.int .i64 va) ∧ w'.cell? ⟨pb, b, none⟩ = some (.int .i64 vb)) (by kernel_rfl) ?_
                    have hS : (fun w' : World => Fr wr w' Nil ∧ w'.cell? ⟨pb, a, none⟩ = some (.int .i64 va) ∧ w'.cell? ⟨pb, b, none⟩ = some (.int .i64 vb)) wr.drew := ⟨(Fr.refl wr Nil).drew, q0, q1⟩
                    clear q0 q1
                    refine wpAnyS_take (i := 0) (v := ?_) rfl (by kernel_rfl) (fun _ _ _ h => h) (by rfl) hS ?_ ?_
                    rotate_left
                    · intro w' hS'
                      (try dsimp only at hS')
                      go_simp <;> with_reducible rfl
                    try simp only [Act.put, List.setIfInBounds_toArray, List.set_cons_zero, List.set_cons_succ]
                    refine wpAnyS_take (i := 1) (v := ?_) rfl (by kernel_rfl) (fun _ _ _ h => h) (by rfl) hS ?_ ?_
                    rotate_left
                    · intro w' hS'
                      (try dsimp only at hS')
                      go_simp <;> with_reducible rfl
                    try simp only [Act.put, List.setIfInBounds_toArray, List.set_cons_zero, List.set_cons_succ]
                    refine wpAnyS_take (i := 2) (v := ?_) rfl (by kernel_rfl) (fun _ _ _ h => h) (by rfl) hS ?_ ?_
                    rotate_left
                    · intro w' hS'
                      (try dsimp only at hS')
                      go_simp <;> with_reducible rfl
                    try simp only [Act.put, List.setIfInBounds_toArray, List.set_cons_zero, List.set_cons_succ]
                    refine wpAnyS_take (i := 3) (v := ?_) rfl (by kernel_rfl) (fun _ _ _ h => h) (by rfl) hS ?_ ?_
                    rotate_left
                    · intro w' hS'
                      (try dsimp only at hS')
                      go_simp <;> with_reducible rfl
                    try simp only [Act.put, List.setIfInBounds_toArray, List.set_cons_zero, List.set_cons_succ]
                    refine wpAnyS_take (i := 4) (v := ?_) rfl (by kernel_rfl) (fun _ _ _ h => h) (by rfl) hS ?_ ?_
                    rotate_left
                    · intro w' hS'
                      (try dsimp only at hS')
                      go_simp <;> with_reducible rfl
                    try simp only [Act.put, List.setIfInBounds_toArray, List.set_cons_zero, List.set_cons_succ]
                    refine wpAnyS_take (i := 5) (v := ?_) rfl (by kernel_rfl) (fun _ _ _ h => h) (by rfl) hS ?_ ?_
                    rotate_left
                    · intro w' hS'
                      (try dsimp only at hS')
                      go_simp <;> with_reducible rfl
                    try simp only [Act.put, List.setIfInBounds_toArray, List.set_cons_zero, List.set_cons_succ]
                    refine wpAnyS_take (i := 6) (v := ?_) rfl (by kernel_rfl) (fun _ _ _ h => h) (by rfl) hS ?_ ?_
                    rotate_left
                    · intro w' hS'
                      (try dsimp only at hS')
                      go_simp <;> with_reducible rfl
                    try simp only [Act.put, List.setIfInBounds_toArray, List.set_cons_zero, List.set_cons_succ]
                    refine wpAnyS_take (i := 7) (v := ?_) rfl (by kernel_rfl) (fun _ _ _ h => h) (by rfl) hS ?_ ?_
                    rotate_left
                    · intro w' hS'
                      (try dsimp only at hS')
                      go_simp <;> with_reducible rfl
                    try simp only [Act.put, List.setIfInBounds_toArray, List.set_cons_zero, List.set_cons_succ]
                    refine wpAnyS_take (i := 8) (v := ?_) rfl (by kernel_rfl) (fun _ _ _ h => h) (by rfl) hS ?_ ?_
                    rotate_left
                    · intro w' hS'
                      (try dsimp only at hS')
                      go_simp <;> with_reducible rfl
                    try simp only [Act.put, List.setIfInBounds_toArray, List.set_cons_zero, List.set_cons_succ]
                    refine wpAnyS_take (i := 9) (v := ?_) rfl (by kernel_rfl) (fun _ _ _ h => h) (by rfl) hS ?_ ?_
                    rotate_left
                    · intro w' hS'
                      (try dsimp only at hS')
                      go_simp <;> with_reducible rfl
                    try simp only [Act.put, List.setIfInBounds_toArray, List.set_cons_zero, List.set_cons_succ]
                    refine wpAnyS_take (i := 10) (v := ?_) rfl (by kernel_rfl) (fun _ _ _ h => h) (by rfl) hS ?_ ?_
                    rotate_left
                    · intro w' hS'
                      (try dsimp only at hS')
                      go_simp <;> with_reducible rfl
                    try simp only [Act.put, List.setIfInBounds_toArray, List.set_cons_zero, List.set_cons_succ]
                    refine wpAnyS_take (i := 11) (v := ?_) rfl (by kernel_rfl) (fun _ _ _ h => h) (by rfl) hS ?_ ?_
                    rotate_left
                    · intro w' hS'
                      (try dsimp only at hS')
                      go_simp <;> with_reducible rfl
                    try simp only [Act.put, List.setIfInBounds_toArray, List.set_cons_zero, List.set_cons_succ]
                    refine wpAnyS_take (i := 12) (v := ?_) rfl (by kernel_rfl) (fun _ _ _ h => h) (by rfl) hS ?_ ?_
                    rotate_left
                    · intro w' hS'
                      (try dsimp only at hS')
                      go_simp <;> with_reducible rfl
                    try simp only [Act.put, List.setIfInBounds_toArray, List.set_cons_zero, List.set_cons_succ]
                    refine wpAnyS_take (i := 13) (v := ?_) rfl (by kernel_rfl) (fun _ _ _ h => h) (by rfl) hS ?_ ?_
                    rotate_left
                    · intro w' hS'
                      (try dsimp only at hS')
                      go_simp <;> with_reducible rfl
                    try simp only [Act.put, List.setIfInBounds_toArray, List.set_cons_zero, List.set_cons_succ]
                    refine wpAnyS_take (i := 14) (v := ?_) rfl (by kernel_rfl) (fun _ _ _ h => h) (by rfl) hS ?_ ?_
                    rotate_left
                    · intro w' hS'
                      (try dsimp only at hS')
                      go_simp <;> with_reducible rfl
                    try simp only [Act.put, List.setIfInBounds_toArray, List.set_cons_zero, List.set_cons_succ]
                    refine wpAnyS_take (i := 16) (v := ?_) rfl (by kernel_rfl) (fun _ _ _ h => h) (by rfl) hS ?_ ?_
                    rotate_left
                    · intro w' hS'
                      (try dsimp only at hS')
                      go_simp <;> with_reducible rfl
                    try simp only [Act.put, List.setIfInBounds_toArray, List.set_cons_zero, List.set_cons_succ]
                    refine wpAnyS_one (i := 15) rfl (by kernel_rfl) (by decide) (by rfl) fun K hK => ?_
                    go_simp
                    refine (reach_in _ G a _ (HG.out.fr0 (HL3.out.fr.trans0 hS.1)) hla (by omega)).mono ?_
                    rintro e w4 ⟨ya, yc, rfl, ho4, -, hf4⟩
                    have hS4 : (fun w' : World => Fr wr w' Nil ∧ w'.cell? ⟨pb, a, none⟩ = some (.int .i64 va) ∧ w'.cell? ⟨pb, b, none⟩ = some (.int .i64 vb)) w4 := ⟨hS.1.trans0 hf4, hf4.cell hS.2.1 (fun h => h), hf4.cell hS.2.2 (fun h => h)⟩
                    have HO4 := Lib.hid ho4.at
                    refine hK.out _ _ hS4 ?_
                    clear hK K hS ho4 hf4
                    try simp only [Act.put, List.setIfInBounds_toArray, List.set_cons_zero, List.set_cons_succ]
                    refine wpAnyS_one (i := 17) rfl (by kernel_rfl) (by decide) (by rfl) fun K hK => ?_
                    go_simp
                    refine (has_any _ (reachP G a) (b : Int) w4 HO4.out (by have := reachP_len G a; omega)).mono ?_
                    rintro e w5 ⟨rfl, rfl⟩
                    rw [contains_reach, HW1.out]
                    refine hK.out _ _ hS4 ?_
                    clear hK K
                    try simp only [Act.put, List.setIfInBounds_toArray, List.set_cons_zero, List.set_cons_succ]
                    refine wpAnyS_take (i := 18) (v := ?_) rfl (by kernel_rfl) (fun _ _ _ h => h) (by rfl) hS4 ?_ ?_
                    rotate_left
                    · intro w' hS'
                      (try dsimp only at hS')
                      go_simp <;> with_reducible rfl
                    try simp only [Act.put, List.setIfInBounds_toArray, List.set_cons_zero, List.set_cons_succ]
                    refine wpAnyS_skip (i := 19) rfl (by kernel_rfl) (fun _ _ _ h => h) (by rfl) hS4 ?_
                    try simp only [Act.put, List.setIfInBounds_toArray, List.set_cons_zero, List.set_cons_succ]
                    refine wpAnyS_skip (i := 20) rfl (by kernel_rfl) (fun _ _ _ h => h) (by rfl) hS4 ?_
                    try simp only [Act.put, List.setIfInBounds_toArray, List.set_cons_zero, List.set_cons_succ]
                    refine wpAnyS_skip (i := 21) rfl (by kernel_rfl) (fun _ _ _ h => h) (by rfl) hS4 ?_
                    try simp only [Act.put, List.setIfInBounds_toArray, List.set_cons_zero, List.set_cons_succ]
                    refine wpAnyS_skip (i := 22) rfl (by kernel_rfl) (fun _ _ _ h => h) (by rfl) hS4 ?_
                    try simp only [Act.put, List.setIfInBounds_toArray, List.set_cons_zero, List.set_cons_succ]
                    refine wpAnyS_skip (i := 23) rfl (by kernel_rfl) (fun _ _ _ h => h) (by rfl) hS4 ?_
                    try simp only [Act.put, List.setIfInBounds_toArray, List.set_cons_zero, List.set_cons_succ]
                    refine wpAnyS_take (i := 24) (v := ?_) rfl (by kernel_rfl) (fun _ _ _ h => h) (by rfl) hS4 ?_ ?_
                    rotate_left
                    · intro w' hS'
                      (try dsimp only at hS')
                      go_simp <;> with_reducible rfl
                    try simp only [Act.put, List.setIfInBounds_toArray, List.set_cons_zero, List.set_cons_succ]
                    refine wpAnyS_take (i := 25) (v := ?_) rfl (by kernel_rfl) (fun _ _ _ h => h) (by rfl) hS4 ?_ ?_
                    rotate_left
                    · intro w' hS'
                      (try dsimp only at hS')
                      go_simp <;> with_reducible rfl
                    try simp only [Act.put, List.setIfInBounds_toArray, List.set_cons_zero, List.set_cons_succ]
                    refine wpAnyS_last (i := 26) rfl (by kernel_rfl) (by decide) (by kernel_rfl) (by rfl) fun K hK => ?_
                    go_simp
                    refine hK.out _ _ ?_
                    clear hK K
                    have HL5 := Lib.hid (HL3.out.fr0 hS4.1)
                    clear hS4
                    go_wp2_with fail
                    go_roundw
                    case rel => exact ⟨b + 1, by omega, by go_num, HL5.out⟩
                    case measure => simp [intOf]; omega
                  | true =>
                    have HW1 := Lib.hid hw1
                    rw [hw1, Bool.true_and] at hsm
                    clear hw1
                    cases hw2 : wayP G b a with
                    | false =>
                      have HW2 := Lib.hid hw2
                      rw [hw2] at hsm
                      clear hw2
                      go_wp2_with fail
                      refine wp_region_sink 26 (fun w' : World => Fr wr w' Nil ∧ w'.cell? ⟨pb, a, none⟩ = some (.int .i64 va) ∧ w'.cell? ⟨pb, b, none⟩ = some (.int .i64 vb)) (by kernel_rfl) ?_
                      have hS : (fun w' : World => Fr wr w' Nil ∧ w'.cell? ⟨pb, a, none⟩ = some (.int .i64 va) ∧ w'.cell? ⟨pb, b, none⟩ = some (.int .i64 vb)) wr.drew := ⟨(Fr.refl wr Nil).drew, q0, q1⟩
                      clear q0 q1
                      refine wpAnyS_take (i := 0) (v := ?_) rfl (by kernel_rfl) (fun _ _ _ h => h) (by rfl) hS ?_ ?_
                      rotate_left
                      · intro w' hS'
                        (try dsimp only at hS')
                        go_simp <;> with_reducible rfl
                      try simp only [Act.put, List.setIfInBounds_toArray, List.set_cons_zero, List.set_cons_succ]
                      refine wpAnyS_take (i := 1) (v := ?_) rfl (by kernel_rfl) (fun _ _ _ h => h) (by rfl) hS ?_ ?_
                      rotate_left
                      · intro w' hS'
                        (try dsimp only at hS')
                        go_simp <;> with_reducible rfl
                      try simp only [Act.put, List.setIfInBounds_toArray, List.set_cons_zero, List.set_cons_succ]
                      refine wpAnyS_take (i := 2) (v := ?_) rfl (by kernel_rfl) (fun _ _ _ h => h) (by rfl) hS ?_ ?_
                      rotate_left
                      · intro w' hS'
                        (try dsimp only at hS')
                        go_simp <;> with_reducible rfl
                      try simp only [Act.put, List.setIfInBounds_toArray, List.set_cons_zero, List.set_cons_succ]
                      refine wpAnyS_take (i := 3) (v := ?_) rfl (by kernel_rfl) (fun _ _ _ h => h) (by rfl) hS ?_ ?_
                      rotate_left
                      · intro w' hS'
                        (try dsimp only at hS')
                        go_simp <;> with_reducible rfl
                      try simp only [Act.put, List.setIfInBounds_toArray, List.set_cons_zero, List.set_cons_succ]
                      refine wpAnyS_take (i := 4) (v := ?_) rfl (by kernel_rfl) (fun _ _ _ h => h) (by rfl) hS ?_ ?_
                      rotate_left
                      · intro w' hS'
                        (try dsimp only at hS')
                        go_simp <;> with_reducible rfl
                      try simp only [Act.put, List.setIfInBounds_toArray, List.set_cons_zero, List.set_cons_succ]
                      refine wpAnyS_take (i := 5) (v := ?_) rfl (by kernel_rfl) (fun _ _ _ h => h) (by rfl) hS ?_ ?_
                      rotate_left
                      · intro w' hS'
                        (try dsimp only at hS')
                        go_simp <;> with_reducible rfl
                      try simp only [Act.put, List.setIfInBounds_toArray, List.set_cons_zero, List.set_cons_succ]
                      refine wpAnyS_take (i := 6) (v := ?_) rfl (by kernel_rfl) (fun _ _ _ h => h) (by rfl) hS ?_ ?_
                      rotate_left
                      · intro w' hS'
                        (try dsimp only at hS')
                        go_simp <;> with_reducible rfl
                      try simp only [Act.put, List.setIfInBounds_toArray, List.set_cons_zero, List.set_cons_succ]
                      refine wpAnyS_take (i := 7) (v := ?_) rfl (by kernel_rfl) (fun _ _ _ h => h) (by rfl) hS ?_ ?_
                      rotate_left
                      · intro w' hS'
                        (try dsimp only at hS')
                        go_simp <;> with_reducible rfl
                      try simp only [Act.put, List.setIfInBounds_toArray, List.set_cons_zero, List.set_cons_succ]
                      refine wpAnyS_take (i := 8) (v := ?_) rfl (by kernel_rfl) (fun _ _ _ h => h) (by rfl) hS ?_ ?_
                      rotate_left
                      · intro w' hS'
                        (try dsimp only at hS')
                        go_simp <;> with_reducible rfl
                      try simp only [Act.put, List.setIfInBounds_toArray, List.set_cons_zero, List.set_cons_succ]
                      refine wpAnyS_take (i := 9) (v := ?_) rfl (by kernel_rfl) (fun _ _ _ h => h) (by rfl) hS ?_ ?_
                      rotate_left
                      · intro w' hS'
                        (try dsimp only at hS')
                        go_simp <;> with_reducible rfl
                      try simp only [Act.put, List.setIfInBounds_toArray, List.set_cons_zero, List.set_cons_succ]
                      refine wpAnyS_take (i := 10) (v := ?_) rfl (by kernel_rfl) (fun _ _ _ h => h) (by rfl) hS ?_ ?_
                      rotate_left
                      · intro w' hS'
                        (try dsimp only at hS')
                        go_simp <;> with_reducible rfl
                      try simp only [Act.put, List.setIfInBounds_toArray, List.set_cons_zero, List.set_cons_succ]
                      refine wpAnyS_take (i := 11) (v := ?_) rfl (by kernel_rfl) (fun _ _ _ h => h) (by rfl) hS ?_ ?_
                      rotate_left
                      · intro w' hS'
                        (try dsimp only at hS')
                        go_simp <;> with_reducible rfl
                      try simp only [Act.put, List.setIfInBounds_toArray, List.set_cons_zero, List.set_cons_succ]
                      refine wpAnyS_take (i := 12) (v := ?_) rfl (by kernel_rfl) (fun _ _ _ h => h) (by rfl) hS ?_ ?_
                      rotate_left
                      · intro w' hS'
                        (try dsimp only at hS')
                        go_simp <;> with_reducible rfl
                      try simp only [Act.put, List.setIfInBounds_toArray, List.set_cons_zero, List.set_cons_succ]
                      refine wpAnyS_take (i := 13) (v := ?_) rfl (by kernel_rfl) (fun _ _ _ h => h) (by rfl) hS ?_ ?_
                      rotate_left
                      · intro w' hS'
                        (try dsimp only at hS')
                        go_simp <;> with_reducible rfl
                      try simp only [Act.put, List.setIfInBounds_toArray, List.set_cons_zero, List.set_cons_succ]
                      refine wpAnyS_take (i := 14) (v := ?_) rfl (by kernel_rfl) (fun _ _ _ h => h) (by rfl) hS ?_ ?_
                      rotate_left
                      · intro w' hS'
                        (try dsimp only at hS')
                        go_simp <;> with_reducible rfl
                      try simp only [Act.put, List.setIfInBounds_toArray, List.set_cons_zero, List.set_cons_succ]
                      refine wpAnyS_take (i := 16) (v := ?_) rfl (by kernel_rfl) (fun _ _ _ h => h) (by rfl) hS ?_ ?_
                      rotate_left
                      · intro w' hS'
                        (try dsimp only at hS')
                        go_simp <;> with_reducible rfl
                      try simp only [Act.put, List.setIfInBounds_toArray, List.set_cons_zero, List.set_cons_succ]
                      refine wpAnyS_one (i := 15) rfl (by kernel_rfl) (by decide) (by rfl) fun K hK => ?_
                      go_simp
                      refine (reach_in _ G a _ (HG.out.fr0 (HL3.out.fr.trans0 hS.1)) hla (by omega)).mono ?_
                      rintro e w4 ⟨ya, yc, rfl, ho4, -, hf4⟩
                      have hS4 : (fun w' : World => Fr wr w' Nil ∧ w'.cell? ⟨pb, a, none⟩ = some (.int .i64 va) ∧ w'.cell? ⟨pb, b, none⟩ = some (.int .i64 vb)) w4 := ⟨hS.1.trans0 hf4, hf4.cell hS.2.1 (fun h => h), hf4.cell hS.2.2 (fun h => h)⟩
                      have HO4 := Lib.hid ho4.at
                      refine hK.out _ _ hS4 ?_
                      clear hK K hS ho4 hf4
                      try simp only [Act.put, List.setIfInBounds_toArray, List.set_cons_zero, List.set_cons_succ]
                      refine wpAnyS_one (i := 17) rfl (by kernel_rfl) (by decide) (by rfl) fun K hK => ?_
                      go_simp
                      refine (has_any _ (reachP G a) (b : Int) w4 HO4.out (by have := reachP_len G a; omega)).mono ?_
                      rintro e w5 ⟨rfl, rfl⟩
                      rw [contains_reach, HW1.out]
                      refine hK.out _ _ hS4 ?_
                      clear hK K
                      try simp only [Act.put, List.setIfInBounds_toArray, List.set_cons_zero, List.set_cons_succ]
                      refine wpAnyS_take (i := 18) (v := ?_) rfl (by kernel_rfl) (fun _ _ _ h => h) (by rfl) hS4 ?_ ?_
                      rotate_left
                      · intro w' hS'
                        (try dsimp only at hS')
                        go_simp <;> with_reducible rfl
                      try simp only [Act.put, List.setIfInBounds_toArray, List.set_cons_zero, List.set_cons_succ]
                      refine wpAnyS_take (i := 19) (v := ?_) rfl (by kernel_rfl) (fun _ _ _ h => h) (by rfl) hS4 ?_ ?_
                      rotate_left
                      · intro w' hS'
                        (try dsimp only at hS')
                        go_simp <;> with_reducible rfl
                      try simp only [Act.put, List.setIfInBounds_toArray, List.set_cons_zero, List.set_cons_succ]
                      refine wpAnyS_take (i := 20) (v := ?_) rfl (by kernel_rfl) (fun _ _ _ h => h) (by rfl) hS4 ?_ ?_
                      rotate_left
                      · intro w' hS'
                        (try dsimp only at hS')
                        go_simp <;> with_reducible rfl
                      try simp only [Act.put, List.setIfInBounds_toArray, List.set_cons_zero, List.set_cons_succ]
                      refine wpAnyS_take (i := 22) (v := ?_) rfl (by kernel_rfl) (fun _ _ _ h => h) (by rfl) hS4 ?_ ?_
                      rotate_left
                      · intro w' hS'
                        (try dsimp only at hS')
                        go_simp <;> with_reducible rfl
                      try simp only [Act.put, List.setIfInBounds_toArray, List.set_cons_zero, List.set_cons_succ]
                      refine wpAnyS_one (i := 21) rfl (by kernel_rfl) (by decide) (by rfl) fun K hK => ?_
                      go_simp
                      refine (reach_in _ G b _ (HG.out.fr0 (HL3.out.fr.trans0 hS4.1)) hlb (by omega)).mono ?_
                      rintro e w6 ⟨za, zc, rfl, ho6, -, hf6⟩
                      have hS6 : (fun w' : World => Fr wr w' Nil ∧ w'.cell? ⟨pb, a, none⟩ = some (.int .i64 va) ∧ w'.cell? ⟨pb, b, none⟩ = some (.int .i64 vb)) w6 := ⟨hS4.1.trans0 hf6, hf6.cell hS4.2.1 (fun h => h), hf6.cell hS4.2.2 (fun h => h)⟩
                      have HO6 := Lib.hid ho6.at
                      refine hK.out _ _ hS6 ?_
                      clear hK K hS4 ho6 hf6
                      try simp only [Act.put, List.setIfInBounds_toArray, List.set_cons_zero, List.set_cons_succ]
                      refine wpAnyS_one (i := 23) rfl (by kernel_rfl) (by decide) (by rfl) fun K hK => ?_
                      go_simp
                      refine (has_any _ (reachP G b) (a : Int) w6 HO6.out (by have := reachP_len G b; omega)).mono ?_
                      rintro e w7 ⟨rfl, rfl⟩
                      rw [contains_reach, HW2.out]
                      refine hK.out _ _ hS6 ?_
                      clear hK K
                      try simp only [Act.put, List.setIfInBounds_toArray, List.set_cons_zero, List.set_cons_succ]
                      refine wpAnyS_take (i := 24) (v := ?_) rfl (by kernel_rfl) (fun _ _ _ h => h) (by rfl) hS6 ?_ ?_
                      rotate_left
                      · intro w' hS'
                        (try dsimp only at hS')
                        go_simp <;> with_reducible rfl
                      try simp only [Act.put, List.setIfInBounds_toArray, List.set_cons_zero, List.set_cons_succ]
                      refine wpAnyS_take (i := 25) (v := ?_) rfl (by kernel_rfl) (fun _ _ _ h => h) (by rfl) hS6 ?_ ?_
                      rotate_left
                      · intro w' hS'
                        (try dsimp only at hS')
                        go_simp <;> with_reducible rfl
                      try simp only [Act.put, List.setIfInBounds_toArray, List.set_cons_zero, List.set_cons_succ]
                      refine wpAnyS_last (i := 26) rfl (by kernel_rfl) (by decide) (by kernel_rfl) (by rfl) fun K hK => ?_
                      go_simp
                      refine hK.out _ _ ?_
                      clear hK K
                      have HL5 := Lib.hid (HL3.out.fr0 hS6.1)
                      clear hS6
                      go_wp2_with fail
                      go_roundw
                      case rel => exact ⟨b + 1, by omega, by go_num, HL5.out⟩
                      case measure => simp [intOf]; omega
                    | true =>
                      have HW2 := Lib.hid hw2
                      rw [hw2] at hsm
                      clear hw2
                      go_wp2_with fail
                      refine wp_region_sink 26 (fun w' : World => Fr wr w' Nil ∧ w'.cell? ⟨pb, a, none⟩ = some (.int .i64 va) ∧ w'.cell? ⟨pb, b, none⟩ = some (.int .i64 vb)) (by kernel_rfl) ?_
                      have hS : (fun w' : World => Fr wr w' Nil ∧ w'.cell? ⟨pb, a, none⟩ = some (.int .i64 va) ∧ w'.cell? ⟨pb, b, none⟩ = some (.int .i64 vb)) wr.drew := ⟨(Fr.refl wr Nil).drew, q0, q1⟩
                      clear q0 q1
                      refine wpAnyS_take (i := 0) (v := ?_) rfl (by kernel_rfl) (fun _ _ _ h => h) (by rfl) hS ?_ ?_
                      rotate_left
                      · intro w' hS'
                        (try dsimp only at hS')
                        go_simp <;> with_reducible rfl
                      try simp only [Act.put, List.setIfInBounds_toArray, List.set_cons_zero, List.set_cons_succ]
                      refine wpAnyS_take (i := 1) (v := ?_) rfl (by kernel_rfl) (fun _ _ _ h => h) (by rfl) hS ?_ ?_
                      rotate_left
                      · intro w' hS'
                        (try dsimp only at hS')
                        go_simp <;> with_reducible rfl
                      try simp only [Act.put, List.setIfInBounds_toArray, List.set_cons_zero, List.set_cons_succ]
                      refine wpAnyS_take (i := 2) (v := ?_) rfl (by kernel_rfl) (fun _ _ _ h => h) (by rfl) hS ?_ ?_
                      rotate_left
                      · intro w' hS'
                        (try dsimp only at hS')
                        go_simp <;> with_reducible rfl
                      try simp only [Act.put, List.setIfInBounds_toArray, List.set_cons_zero, List.set_cons_succ]
                      refine wpAnyS_take (i := 3) (v := ?_) rfl (by kernel_rfl) (fun _ _ _ h => h) (by rfl) hS ?_ ?_
                      rotate_left
                      · intro w' hS'
                        (try dsimp only at hS')
                        go_simp <;> with_reducible rfl
                      try simp only [Act.put, List.setIfInBounds_toArray, List.set_cons_zero, List.set_cons_succ]
                      refine wpAnyS_take (i := 4) (v := ?_) rfl (by kernel_rfl) (fun _ _ _ h => h) (by rfl) hS ?_ ?_
                      rotate_left
                      · intro w' hS'
                        (try dsimp only at hS')
                        go_simp <;> with_reducible rfl
                      try simp only [Act.put, List.setIfInBounds_toArray, List.set_cons_zero, List.set_cons_succ]
                      refine wpAnyS_take (i := 5) (v := ?_) rfl (by kernel_rfl) (fun _ _ _ h => h) (by rfl) hS ?_ ?_
                      rotate_left
                      · intro w' hS'
                        (try dsimp only at hS')
                        go_simp <;> with_reducible rfl
                      try simp only [Act.put, List.setIfInBounds_toArray, List.set_cons_zero, List.set_cons_succ]
                      refine wpAnyS_take (i := 6) (v := ?_) rfl (by kernel_rfl) (fun _ _ _ h => h) (by rfl) hS ?_ ?_
                      rotate_left
                      · intro w' hS'
                        (try dsimp only at hS')
                        go_simp <;> with_reducible rfl
                      try simp only [Act.put, List.setIfInBounds_toArray, List.set_cons_zero, List.set_cons_succ]
                      refine wpAnyS_take (i := 7) (v := ?_) rfl (by kernel_rfl) (fun _ _ _ h => h) (by rfl) hS ?_ ?_
                      rotate_left
                      · intro w' hS'
                        (try dsimp only at hS')
                        go_simp <;> with_reducible rfl
                      try simp only [Act.put, List.setIfInBounds_toArray, List.set_cons_zero, List.set_cons_succ]
                      refine wpAnyS_take (i := 8) (v := ?_) rfl (by kernel_rfl) (fun _ _ _ h => h) (by rfl) hS ?_ ?_
                      rotate_left
                      · intro w' hS'
                        (try dsimp only at hS')
                        go_simp <;> with_reducible rfl
                      try simp only [Act.put, List.setIfInBounds_toArray, List.set_cons_zero, List.set_cons_succ]
                      refine wpAnyS_take (i := 9) (v := ?_) rfl (by kernel_rfl) (fun _ _ _ h => h) (by rfl) hS ?_ ?_
                      rotate_left
                      · intro w' hS'
                        (try dsimp only at hS')
                        go_simp <;> with_reducible rfl
                      try simp only [Act.put, List.setIfInBounds_toArray, List.set_cons_zero, List.set_cons_succ]
                      refine wpAnyS_take (i := 10) (v := ?_) rfl (by kernel_rfl) (fun _ _ _ h => h) (by rfl) hS ?_ ?_
                      rotate_left
                      · intro w' hS'
                        (try dsimp only at hS')
                        go_simp <;> with_reducible rfl
                      try simp only [Act.put, List.setIfInBounds_toArray, List.set_cons_zero, List.set_cons_succ]
                      refine wpAnyS_take (i := 11) (v := ?_) rfl (by kernel_rfl) (fun _ _ _ h => h) (by rfl) hS ?_ ?_
                      rotate_left
                      · intro w' hS'
                        (try dsimp only at hS')
                        go_simp <;> with_reducible rfl
                      try simp only [Act.put, List.setIfInBounds_toArray, List.set_cons_zero, List.set_cons_succ]
                      refine wpAnyS_take (i := 12) (v := ?_) rfl (by kernel_rfl) (fun _ _ _ h => h) (by rfl) hS ?_ ?_
                      rotate_left
                      · intro w' hS'
                        (try dsimp only at hS')
                        go_simp <;> with_reducible rfl
                      try simp only [Act.put, List.setIfInBounds_toArray, List.set_cons_zero, List.set_cons_succ]
                      refine wpAnyS_take (i := 13) (v := ?_) rfl (by kernel_rfl) (fun _ _ _ h => h) (by rfl) hS ?_ ?_
                      rotate_left
                      · intro w' hS'
                        (try dsimp only at hS')
                        go_simp <;> with_reducible rfl
                      try simp only [Act.put, List.setIfInBounds_toArray, List.set_cons_zero, List.set_cons_succ]
                      refine wpAnyS_take (i := 14) (v := ?_) rfl (by kernel_rfl) (fun _ _ _ h => h) (by rfl) hS ?_ ?_
                      rotate_left
                      · intro w' hS'
                        (try dsimp only at hS')
                        go_simp <;> with_reducible rfl
                      try simp only [Act.put, List.setIfInBounds_toArray, List.set_cons_zero, List.set_cons_succ]
                      refine wpAnyS_take (i := 16) (v := ?_) rfl (by kernel_rfl) (fun _ _ _ h => h) (by rfl) hS ?_ ?_
                      rotate_left
                      · intro w' hS'
                        (try dsimp only at hS')
                        go_simp <;> with_reducible rfl
                      try simp only [Act.put, List.setIfInBounds_toArray, List.set_cons_zero, List.set_cons_succ]
                      refine wpAnyS_one (i := 15) rfl (by kernel_rfl) (by decide) (by rfl) fun K hK => ?_
                      go_simp
                      refine (reach_in _ G a _ (HG.out.fr0 (HL3.out.fr.trans0 hS.1)) hla (by omega)).mono ?_
                      rintro e w4 ⟨ya, yc, rfl, ho4, -, hf4⟩
                      have hS4 : (fun w' : World => Fr wr w' Nil ∧ w'.cell? ⟨pb, a, none⟩ = some (.int .i64 va) ∧ w'.cell? ⟨pb, b, none⟩ = some (.int .i64 vb)) w4 := ⟨hS.1.trans0 hf4, hf4.cell hS.2.1 (fun h => h), hf4.cell hS.2.2 (fun h => h)⟩
                      have HO4 := Lib.hid ho4.at
                      refine hK.out _ _ hS4 ?_
                      clear hK K hS ho4 hf4
                      try simp only [Act.put, List.setIfInBounds_toArray, List.set_cons_zero, List.set_cons_succ]
                      refine wpAnyS_one (i := 17) rfl (by kernel_rfl) (by decide) (by rfl) fun K hK => ?_
                      go_simp
                      refine (has_any _ (reachP G a) (b : Int) w4 HO4.out (by have := reachP_len G a; omega)).mono ?_
                      rintro e w5 ⟨rfl, rfl⟩
                      rw [contains_reach, HW1.out]
                      refine hK.out _ _ hS4 ?_
                      clear hK K
                      try simp only [Act.put, List.setIfInBounds_toArray, List.set_cons_zero, List.set_cons_succ]
                      refine wpAnyS_take (i := 18) (v := ?_) rfl (by kernel_rfl) (fun _ _ _ h => h) (by rfl) hS4 ?_ ?_
                      rotate_left
                      · intro w' hS'
                        (try dsimp only at hS')
                        go_simp <;> with_reducible rfl
                      try simp only [Act.put, List.setIfInBounds_toArray, List.set_cons_zero, List.set_cons_succ]
                      refine wpAnyS_take (i := 19) (v := ?_) rfl (by kernel_rfl) (fun _ _ _ h => h) (by rfl) hS4 ?_ ?_
                      rotate_left
                      · intro w' hS'
                        (try dsimp only at hS')
                        go_simp <;> with_reducible rfl
                      try simp only [Act.put, List.setIfInBounds_toArray, List.set_cons_zero, List.set_cons_succ]
                      refine wpAnyS_take (i := 20) (v := ?_) rfl (by kernel_rfl) (fun _ _ _ h => h) (by rfl) hS4 ?_ ?_
                      rotate_left
                      · intro w' hS'
                        (try dsimp only at hS')
                        go_simp <;> with_reducible rfl
                      try simp only [Act.put, List.setIfInBounds_toArray, List.set_cons_zero, List.set_cons_succ]
                      refine wpAnyS_take (i := 22) (v := ?_) rfl (by kernel_rfl) (fun _ _ _ h => h) (by rfl) hS4 ?_ ?_
                      rotate_left
                      · intro w' hS'
                        (try dsimp only at hS')
                        go_simp <;> with_reducible rfl
                      try simp only [Act.put, List.setIfInBounds_toArray, List.set_cons_zero, List.set_cons_succ]
                      refine wpAnyS_one (i := 21) rfl (by kernel_rfl) (by decide) (by rfl) fun K hK => ?_
                      go_simp
                      refine (reach_in _ G b _ (HG.out.fr0 (HL3.out.fr.trans0 hS4.1)) hlb (by omega)).mono ?_
                      rintro e w6 ⟨za, zc, rfl, ho6, -, hf6⟩
                      have hS6 : (fun w' : World => Fr wr w' Nil ∧ w'.cell? ⟨pb, a, none⟩ = some (.int .i64 va) ∧ w'.cell? ⟨pb, b, none⟩ = some (.int .i64 vb)) w6 := ⟨hS4.1.trans0 hf6, hf6.cell hS4.2.1 (fun h => h), hf6.cell hS4.2.2 (fun h => h)⟩
                      have HO6 := Lib.hid ho6.at
                      refine hK.out _ _ hS6 ?_
                      clear hK K hS4 ho6 hf6
                      try simp only [Act.put, List.setIfInBounds_toArray, List.set_cons_zero, List.set_cons_succ]
                      refine wpAnyS_one (i := 23) rfl (by kernel_rfl) (by decide) (by rfl) fun K hK => ?_
                      go_simp
                      refine (has_any _ (reachP G b) (a : Int) w6 HO6.out (by have := reachP_len G b; omega)).mono ?_
                      rintro e w7 ⟨rfl, rfl⟩
                      rw [contains_reach, HW2.out]
                      refine hK.out _ _ hS6 ?_
                      clear hK K
                      try simp only [Act.put, List.setIfInBounds_toArray, List.set_cons_zero, List.set_cons_succ]
                      refine wpAnyS_take (i := 24) (v := ?_) rfl (by kernel_rfl) (fun _ _ _ h => h) (by rfl) hS6 ?_ ?_
                      rotate_left
                      · intro w' hS'
                        (try dsimp only at hS')
                        go_simp <;> with_reducible rfl
                      try simp only [Act.put, List.setIfInBounds_toArray, List.set_cons_zero, List.set_cons_succ]
                      refine wpAnyS_take (i := 25) (v := ?_) rfl (by kernel_rfl) (fun _ _ _ h => h) (by rfl) hS6 ?_ ?_
                      rotate_left
                      · intro w' hS'
                        (try dsimp only at hS')
                        go_simp <;> with_reducible rfl
                      try simp only [Act.put, List.setIfInBounds_toArray, List.set_cons_zero, List.set_cons_succ]
                      refine wpAnyS_last (i := 26) rfl (by kernel_rfl) (by decide) (by kernel_rfl) (by rfl) fun K hK => ?_
                      go_simp
                      refine hK.out _ _ ?_
                      clear hK K
                      have HL5 := Lib.hid (HL3.out.fr0 hS6.1)
                      clear hS6
                      go_wp2_with fail
                      go_roundw
                      case rel => exact ⟨b + 1, by omega, by go_num, HL5.out⟩
                      case measure => simp [intOf]; omega
              · obtain rfl : b = G.length := by omega
                go_wp2_with fail
                go_roundw
                case rel => exact ⟨a + 1, by omega, by go_num, HL3.out⟩
                case measure => simp [intOf]; omega
          · obtain rfl : a = G.length := by omega
            have HF := Lib.hid HL3.out.fr
            go_wp2_with fail
            refine (acyclic_any _ G wr (HG.out.fr0 HF.out) (by omega)).mono ?_
            rintro e w5 ⟨rfl, hf5⟩
            have HF5 := Lib.hid (HF.out.trans0 hf5)
            clear hf5
            generalize okP G [] = d
            cases d
            all_goals
              go_wp2_with fail
              refine (works_any w5).mono ?_
              rintro e w7 ⟨rfl, hf7⟩
              have HF7 := Lib.hid (HF5.out.trans0 hf7)
              clear hf7
              go_wp2_with fail
              go_ret
              exact ⟨rfl, HF7.out⟩
end Go.Proofs.Ytkeiphmhckkniaa
