/-
  The walk of UndoApart: it answers true.
  No condition.
-/
import Derived.Test.YtjpenaodkfljhaaUdInv
import Derived.Test.YtjpenaodkfljhaaQTail
import Derived.Test.YtjpenaodkfljhaaSink
namespace Go.Proofs.Ytjpenaodkfljhaa
open Go Go.RowKit

theorem and_one (E : Int) : (bits .and .i64 E 1 = 0 ∧ E % 2 = 0) ∨ (bits .and .i64 E 1 = 1 ∧ E % 2 = 1) := by
  have h : bits .and .i64 E 1 = E % 2 := by
    show IntKind.i64.wrap ((BitVec.ofInt 64 E &&& BitVec.ofInt 64 1).toNat : Int) = _
    rw [BitVec.toNat_and, BitVec.toNat_ofInt, show (BitVec.ofInt 64 1).toNat = 1 from rfl, Nat.and_one_is_mod, IntKind.wrap_i64]
    omega
  rw [h]
  omega
structure InvA (N : Nat) (A M : List MTab) (L : List (Int × Ent)) : Prop where
  ok : Ok N M
  okA : Ok N A
  who : ∀ p ∈ L, p.1 = 1 ∨ p.1 = 2
  ent : ∀ e ∈ ofL L 1, EntW e ∧ e.2.1 % 2 = 0
  chain : (ofL L 1).reverse.foldl undoE M = A
theorem InvA.start : InvA 0 tabs0 tabs0 [] := ⟨ok_tabs0, ok_tabs0, (fun p hp => by cases hp), (fun p hp => by cases hp), rfl⟩
theorem InvA.mono {N N' : Nat} {A M : List MTab} {L : List (Int × Ent)} (h : InvA N A M L) (hn : N ≤ N') : InvA N' A M L := ⟨h.ok.mono hn, h.okA.mono hn, h.who, h.ent, h.chain⟩
theorem InvA.note1 {N : Nat} {A M : List MTab} {L : List (Int × Ent)} (h : InvA N A M L) (hN : N < 1000) (b : Bool) {t : Int} (ht : wid t ≠ 0) (k n : Int) (hk : k % 2 = 0) : InvA (N + 1) A (chg M b t k n) (L ++ [(1, entOf M t k)]) := by
  refine ⟨h.ok.chg (by omega) b t k n, h.okA.mono (Nat.le_succ _), fun p hp => ?_, fun e he => ?_, ?_⟩
  · rcases List.mem_append.1 hp with hp | hp
    · exact h.who p hp
    · rw [List.mem_singleton.1 hp]; exact .inl rfl
  · rw [ofL_snoc, if_pos rfl] at he
    rcases List.mem_append.1 he with he | he
    · exact h.ent e he
    · rw [List.mem_singleton.1 he]; exact ⟨ent_w h.ok ht k, hk⟩
  · rw [ofL_snoc, if_pos rfl, List.reverse_append, List.foldl_append]
    show (ofL L 1).reverse.foldl undoE (undoE (chg M b t k n) (entOf M t k)) = A
    rw [undo_chg h.ok (by omega) b ht k n]
    exact h.chain
theorem InvA.note2 {N : Nat} {A M : List MTab} {L : List (Int × Ent)} (h : InvA N A M L) (hN : N < 1000) (hL : L.length < 1000) (b : Bool) {t : Int} (ht : wid t ≠ 0) (k n : Int) (hk : k % 2 = 1) : InvA (N + 1) (chg A b t k n) (chg M b t k n) (L ++ [(2, entOf M t k)]) := by
  have hol : ofL (L ++ [(2, entOf M t k)]) 1 = ofL L 1 := by rw [ofL_snoc, if_neg (by decide)]
  refine ⟨h.ok.chg (by omega) b t k n, h.okA.chg (by omega) b t k n, fun p hp => ?_, fun e he => ?_, ?_⟩
  · rcases List.mem_append.1 hp with hp | hp
    · exact h.who p hp
    · rw [List.mem_singleton.1 hp]; exact .inr rfl
  · rw [hol] at he; exact h.ent e he
  · rw [hol, undos_comm b ht k n _ h.ok (by have := ofL_len L 1; rw [List.length_reverse]; omega) (fun e he => ?_), h.chain]
    obtain ⟨h1, h2⟩ := h.ent e (List.mem_reverse.1 he)
    exact ⟨h1, fun e2 => by omega⟩
theorem InvA.back {N : Nat} {A M : List MTab} {L : List (Int × Ent)} (h : InvA N A M L) (hN : N < 1000) (hn : 0 < (ofL L 1).length) : InvA (N + 1) A (backM M L 1) (backL L 1) ∧ (ofL (backL L 1) 1).length + 1 = (ofL L 1).length ∧ (ofL L 1).isEmpty = false ∧ (backL L 1).length ≤ L.length := by
  have hne : ofL L 1 ≠ [] := fun e => by rw [e] at hn; simp at hn
  obtain ⟨ds, x, hx⟩ := snoc_of hne
  obtain ⟨h1, h2⟩ := back_some hx
  have h1' := h1 1
  rw [if_pos rfl] at h1'
  refine ⟨⟨ok_back h.ok (by omega) L 1, h.okA.mono (Nat.le_succ _), fun p hp => ?_, fun e he => ?_, ?_⟩, by rw [h1', hx]; simp, by rw [hx]; cases ds <;> rfl, by omega⟩
  · unfold backL at hp
    split at hp
    · exact h.who p hp
    · exact h.who p (List.mem_of_mem_eraseIdx hp)
  · rw [h1'] at he
    exact h.ent e (by rw [hx]; exact List.mem_append.2 (.inl he))
  · rw [h1']
    unfold backM
    rw [hx, List.getLast?_concat]
    have := h.chain
    rw [hx, List.reverse_append, List.foldl_append] at this
    exact this
theorem InvA.done {N : Nat} {A M : List MTab} {L : List (Int × Ent)} (h : InvA N A M L) (hn : (ofL L 1).length = 0) : M = A ∧ forgetL L 2 = [] := by
  have h0 : ofL L 1 = [] := List.eq_nil_of_length_eq_zero hn
  refine ⟨by have := h.chain; rw [h0] at this; exact this, ?_⟩
  unfold forgetL
  refine List.filter_eq_nil_iff.2 fun p hp => ?_
  rcases h.who p hp with e | e
  · have : p.2 ∈ ofL L 1 := List.mem_map.2 ⟨p, List.mem_filter.2 ⟨hp, by rw [e]; rfl⟩, rfl⟩
    rw [h0] at this; cases this
  · rw [e]; decide
section
variable (va : Value) (la : List UCall) (w : World)
set_option maxRecDepth 100000 in
set_option maxHeartbeats 1000000 in
theorem apartlaw_early (ha : UCallsAt w va la) (hE : 60 < la.length) :
    Calls Try.prog 7 #[va] w fun e w' => e = .returned (.bool true) ∧ Fr w w' Nil := by
  obtain ⟨aa, ca, rfl, hca⟩ := ha.shape
  clear ha
  have h1' : (60 : Int) < (la.length : Int) := by omega
  go_enter Try.func7, Try.ntmps7
  go_wp2_with fail
  refine (works_any _).mono ?_
  rintro e w9 ⟨rfl, hf⟩
  have HF := Lib.hid hf
  clear hf
  go_wp2_with fail
  go_ret
  exact ⟨rfl, HF.out⟩
set_option maxRecDepth 100000 in
set_option maxHeartbeats 4000000 in
theorem apartlaw_main (ha : UCallsAt w va la) (h1 : la.length ≤ 60) :
    Calls Try.prog 7 #[va] w fun e w' => e = .returned (.bool true) ∧ Fr w w' Nil := by
  obtain ⟨aa, ca, rfl, hca⟩ := ha.shape
  have HA := Lib.hid ha
  have h1' : ¬ (60 : Int) < (la.length : Int) := by omega
  clear ha
  go_enter Try.func7, Try.ntmps7
  go_wp2_with fail
  refine (twotabs_any (Lies.nil (Fr.refl w Nil))).mono ?_
  rintro e w1 ⟨rb, qb, rfl, h⟩
  have HL := Lib.hid h
  clear h
  go_wp2_with fail
  refine (twotabs_any HL.out).mono ?_
  rintro e w2 ⟨rb2, qb2, rfl, h⟩
  have HL2 := Lib.hid h
  clear h HL
  go_wp2_with fail
  refine (st_new HL2.out 100).mono ?_
  rintro e w3 ⟨lb', rfl, h⟩
  have HL3 : Hid (Lies w w3 [rowsT rb tabs0, refT qb [2, 1] [], rowsT rb2 tabs0, refT qb2 [2, 1] [], logT lb' 100 []]) := h
  clear h HL2
  go_wp2_with fail
  go_loopw [8] (fun vi wr => ∃ (i : Nat) (A M1 : List MTab) (L : List (Int × Ent)), i ≤ la.length ∧ vi = .int .i64 i ∧ L.length ≤ i ∧ InvA i A M1 L ∧ Lies w wr [rowsT rb M1, refT qb [2, 1] [], rowsT rb2 A, refT qb2 [2, 1] [], logT lb' 100 L]) (fun vi _ => la.length - (intOf vi).toNat)
  case atStart => exact ⟨0, tabs0, tabs0, [], by omega, rfl, by simp, InvA.start, HL3.out⟩
  case round =>
    clear HL3
    obtain ⟨i, A, M1, L, hi, rfl, hLi, hinv, h⟩ := hrel
    have HI := Lib.hid hinv
    have HL := Lib.hid h
    have HLi := Lib.hid hLi
    obtain ⟨wo, rfl⟩ : ∃ wo : World, wo = wr := ⟨_, rfl⟩
    clear hinv h hLi
    by_cases hlt : i < la.length
    · obtain ⟨tb, toff, tcap2, htv, htc⟩ := (HA.out.fr0 HL.out.fr).form (by omega)
      simp only [Value.slice.injEq, true_and] at htv
      obtain ⟨rfl, rfl⟩ := htv
      have hgt := List.getElem?_eq_getElem hlt
      generalize la[i] = t at hgt
      obtain ⟨p0, p1, p2, p3, p4⟩ := ucall_cells htc hgt
      have hii : (i : Int) < (la.length : Int) := by omega
      obtain ⟨tk, tw, tt, ty, tn, tok, tow, toy⟩ := t
      simp only at p0 p1 p2 p3 p4
      clear htc hgt
      have e2 := Int.tmod_eq_emod_of_nonneg (b := 2) tok.1
      have HLx := Lib.hid (HL.out.newBk 64 #[.int .u8 tk, .int .i64 tw, .int .i64 tt, .int .i64 ty, .int .i64 tn])
      have x2 := (HLx.out.bk 5 rfl).cell 2
      have x3 := (HLx.out.bk 5 rfl).cell 3
      simp only [List.getElem?_cons_zero, List.getElem?_cons_succ] at x2 x3
      rcases and_one ty with ⟨hand, hodd⟩ | ⟨hand, hodd⟩
      · have HO := Lib.hid hodd
        clear hodd
        go_wp2_with fail
        refine (st_note HLx.out 4 0 rfl rfl 1 tt ty HI.out.ok.good (by decide) (by have := HLi.out; omega)).mono ?_
        rintro e w4 ⟨he, h⟩
        rcases note_room HI.out.ok (L := L) (by have := HLi.out; omega) 1 tt ty with ⟨n0, n1, n2⟩ | ⟨n0, n1, n2⟩
        · rw [n1] at he
          rw [n2] at h
          subst he
          have HL4 : Hid (Lies w w4 [rowsT rb M1, refT qb [2, 1] [], rowsT rb2 A, refT qb2 [2, 1] [], logT lb' 100 L, bkT wo.heap.size 64 [.int .u8 tk, .int .i64 tw, .int .i64 tt, .int .i64 ty, .int .i64 tn]]) := h
          clear h HLx n0 n1 n2
          go_wp2_with fail
          go_roundw
          case rel => exact ⟨i + 1, A, M1, L, by omega, by go_num, by have := HLi.out; omega, HI.out.mono (by omega), HL4.out.take 5⟩
          case measure => simp [intOf]; omega
        · rw [n1] at he
          rw [n2] at h
          subst he
          have HL4 : Hid (Lies w w4 [rowsT rb M1, refT qb [2, 1] [], rowsT rb2 A, refT qb2 [2, 1] [], logT lb' 100 (L ++ [(1, entOf M1 tt ty)]), bkT wo.heap.size 64 [.int .u8 tk, .int .i64 tw, .int .i64 tt, .int .i64 ty, .int .i64 tn]]) := h
          have HN := Lib.hid n0
          clear h HLx n0 n1 n2
          by_cases hk : tk.tmod 2 = 0
          · have y0 := (HL4.out.bk 5 rfl).cell 0
            have y2 := (HL4.out.bk 5 rfl).cell 2
            have y3 := (HL4.out.bk 5 rfl).cell 3
            have y4 := (HL4.out.bk 5 rfl).cell 4
            simp only [List.getElem?_cons_zero, List.getElem?_cons_succ] at y0 y2 y3 y4
            have k2 := KeptF.cell y2
            have k3 := KeptF.cell y3
            have k4 := KeptF.cell y4
            go_wp2_with fail
            refine wp_region_sink 10 (KeptF w4) (by kernel_rfl) ?_
            have hSa : KeptF w4 (World.drew w4) := KeptF.start _
            refine wpAnyS_take (i := 0) (v := ?_) rfl (by kernel_rfl) (fun _ _ _ h => h) (by rfl) hSa ?_ ?_
            rotate_left
            · intro w' hS'
              (try dsimp only at hS')
              go_simp <;> with_reducible rfl
            try simp only [Act.put, List.setIfInBounds_toArray, List.set_cons_zero, List.set_cons_succ]
            refine wpAnyS_take (i := 1) (v := ?_) rfl (by kernel_rfl) (fun _ _ _ h => h) (by rfl) hSa ?_ ?_
            rotate_left
            · intro w' hS'
              (try dsimp only at hS')
              go_simp <;> with_reducible rfl
            try simp only [Act.put, List.setIfInBounds_toArray, List.set_cons_zero, List.set_cons_succ]
            refine wpAnyS_take (i := 2) (v := ?_) rfl (by kernel_rfl) (fun _ _ _ h => h) (by rfl) hSa ?_ ?_
            rotate_left
            · intro w' hS'
              have ck2 := k2 _ hS'
              go_simp <;> with_reducible rfl
            try simp only [Act.put, List.setIfInBounds_toArray, List.set_cons_zero, List.set_cons_succ]
            refine wpAnyS_take (i := 3) (v := ?_) rfl (by kernel_rfl) (fun _ _ _ h => h) (by rfl) hSa ?_ ?_
            rotate_left
            · intro w' hS'
              (try dsimp only at hS')
              go_simp <;> with_reducible rfl
            try simp only [Act.put, List.setIfInBounds_toArray, List.set_cons_zero, List.set_cons_succ]
            refine wpAnyS_take (i := 4) (v := ?_) rfl (by kernel_rfl) (fun _ _ _ h => h) (by rfl) hSa ?_ ?_
            rotate_left
            · intro w' hS'
              have ck3 := k3 _ hS'
              go_simp <;> with_reducible rfl
            try simp only [Act.put, List.setIfInBounds_toArray, List.set_cons_zero, List.set_cons_succ]
            refine wpAnyS_take (i := 5) (v := ?_) rfl (by kernel_rfl) (fun _ _ _ h => h) (by rfl) hSa ?_ ?_
            rotate_left
            · intro w' hS'
              (try dsimp only at hS')
              go_simp <;> with_reducible rfl
            try simp only [Act.put, List.setIfInBounds_toArray, List.set_cons_zero, List.set_cons_succ]
            refine wpAnyS_take (i := 6) (v := ?_) rfl (by kernel_rfl) (fun _ _ _ h => h) (by rfl) hSa ?_ ?_
            rotate_left
            · intro w' hS'
              have ck2 := k2 _ hS'
              go_simp <;> with_reducible rfl
            try simp only [Act.put, List.setIfInBounds_toArray, List.set_cons_zero, List.set_cons_succ]
            refine wpAnyS_take (i := 7) (v := ?_) rfl (by kernel_rfl) (fun _ _ _ h => h) (by rfl) hSa ?_ ?_
            rotate_left
            · intro w' hS'
              (try dsimp only at hS')
              go_simp <;> with_reducible rfl
            try simp only [Act.put, List.setIfInBounds_toArray, List.set_cons_zero, List.set_cons_succ]
            refine wpAnyS_take (i := 8) (v := ?_) rfl (by kernel_rfl) (fun _ _ _ h => h) (by rfl) hSa ?_ ?_
            rotate_left
            · intro w' hS'
              have ck4 := k4 _ hS'
              go_simp <;> with_reducible rfl
            try simp only [Act.put, List.setIfInBounds_toArray, List.set_cons_zero, List.set_cons_succ]
            refine wpAnyS_one (i := 9) rfl (by kernel_rfl) (by decide) (by rfl) fun K hK => ?_
            go_simp
            refine (cols_of tt tn _).mono ?_
            rintro e w6 ⟨v6, rfl, hv6, hf6⟩
            obtain ⟨a6, c6, rfl⟩ := hv6.shape
            have hSb := hSa.next hf6
            refine hK.out _ _ hSb ?_
            clear hK K
            try simp only [Act.put, List.setIfInBounds_toArray, List.set_cons_zero, List.set_cons_succ]
            refine wpAnyS_last (i := 10) rfl (by kernel_rfl) (by decide) (by kernel_rfl) (by rfl) fun K hK => ?_
            go_simp
            refine (st_put (HL4.out.fr0 hSb.fr) 0 rfl tt ty _ (colsU tt tn) HI.out.ok.good hv6 (by unfold colsU; split <;> simp)).mono ?_
            rintro e w7 ⟨rfl, h⟩
            refine hK.out _ _ ?_
            clear hK K
            clear hv6 hf6 hSa hSb k2 k3 k4 y0 y2 y3 y4
            have HL7 : Hid (Lies w w7 [rowsT rb (chg M1 true tt ty tn), refT qb [2, 1] [], rowsT rb2 A, refT qb2 [2, 1] [], logT lb' 100 (L ++ [(1, entOf M1 tt ty)]), bkT wo.heap.size 64 [.int .u8 tk, .int .i64 tw, .int .i64 tt, .int .i64 ty, .int .i64 tn]]) := h
            clear h HL4
            have HI7 := Lib.hid (HI.out.note1 (by omega) true HN.out ty tn HO.out)
            go_wp2_with fail
            go_roundw
            case rel => exact ⟨i + 1, A, chg M1 true tt ty tn, (L ++ [(1, entOf M1 tt ty)]), by omega, by go_num, by have := HLi.out; simp; omega, HI7.out, HL7.out.take 5⟩
            case measure => simp [intOf]; omega
          · have hk1 : tk.tmod 2 = 1 := by omega
            have y0 := (HL4.out.bk 5 rfl).cell 0
            have y2 := (HL4.out.bk 5 rfl).cell 2
            have y3 := (HL4.out.bk 5 rfl).cell 3
            simp only [List.getElem?_cons_zero, List.getElem?_cons_succ] at y0 y2 y3
            go_wp2_with fail
            refine (st_del HL4.out 0 rfl tt ty HI.out.ok.good).mono ?_
            rintro e w7 ⟨rfl, h⟩
            clear y0 y2 y3
            have HL7 : Hid (Lies w w7 [rowsT rb (chg M1 false tt ty tn), refT qb [2, 1] [], rowsT rb2 A, refT qb2 [2, 1] [], logT lb' 100 (L ++ [(1, entOf M1 tt ty)]), bkT wo.heap.size 64 [.int .u8 tk, .int .i64 tw, .int .i64 tt, .int .i64 ty, .int .i64 tn]]) := h
            clear h HL4
            have HI7 := Lib.hid (HI.out.note1 (by omega) false HN.out ty tn HO.out)
            go_wp2_with fail
            go_roundw
            case rel => exact ⟨i + 1, A, chg M1 false tt ty tn, (L ++ [(1, entOf M1 tt ty)]), by omega, by go_num, by have := HLi.out; simp; omega, HI7.out, HL7.out.take 5⟩
            case measure => simp [intOf]; omega

      · have HO := Lib.hid hodd
        clear hodd
        go_wp2_with fail
        refine (st_note HLx.out 4 0 rfl rfl 2 tt ty HI.out.ok.good (by decide) (by have := HLi.out; omega)).mono ?_
        rintro e w4 ⟨he, h⟩
        rcases note_room HI.out.ok (L := L) (by have := HLi.out; omega) 2 tt ty with ⟨n0, n1, n2⟩ | ⟨n0, n1, n2⟩
        · rw [n1] at he
          rw [n2] at h
          subst he
          have HL4 : Hid (Lies w w4 [rowsT rb M1, refT qb [2, 1] [], rowsT rb2 A, refT qb2 [2, 1] [], logT lb' 100 L, bkT wo.heap.size 64 [.int .u8 tk, .int .i64 tw, .int .i64 tt, .int .i64 ty, .int .i64 tn]]) := h
          clear h HLx n0 n1 n2
          go_wp2_with fail
          go_roundw
          case rel => exact ⟨i + 1, A, M1, L, by omega, by go_num, by have := HLi.out; omega, HI.out.mono (by omega), HL4.out.take 5⟩
          case measure => simp [intOf]; omega
        · rw [n1] at he
          rw [n2] at h
          subst he
          have HL4 : Hid (Lies w w4 [rowsT rb M1, refT qb [2, 1] [], rowsT rb2 A, refT qb2 [2, 1] [], logT lb' 100 (L ++ [(2, entOf M1 tt ty)]), bkT wo.heap.size 64 [.int .u8 tk, .int .i64 tw, .int .i64 tt, .int .i64 ty, .int .i64 tn]]) := h
          have HN := Lib.hid n0
          clear h HLx n0 n1 n2
          by_cases hk : tk.tmod 2 = 0
          · have y0 := (HL4.out.bk 5 rfl).cell 0
            have y2 := (HL4.out.bk 5 rfl).cell 2
            have y3 := (HL4.out.bk 5 rfl).cell 3
            have y4 := (HL4.out.bk 5 rfl).cell 4
            simp only [List.getElem?_cons_zero, List.getElem?_cons_succ] at y0 y2 y3 y4
            have k2 := KeptF.cell y2
            have k3 := KeptF.cell y3
            have k4 := KeptF.cell y4
            go_wp2_with fail
            refine wp_region_sink 10 (KeptF w4) (by kernel_rfl) ?_
            have hSa : KeptF w4 (World.drew w4) := KeptF.start _
            refine wpAnyS_take (i := 0) (v := ?_) rfl (by kernel_rfl) (fun _ _ _ h => h) (by rfl) hSa ?_ ?_
            rotate_left
            · intro w' hS'
              (try dsimp only at hS')
              go_simp <;> with_reducible rfl
            try simp only [Act.put, List.setIfInBounds_toArray, List.set_cons_zero, List.set_cons_succ]
            refine wpAnyS_take (i := 1) (v := ?_) rfl (by kernel_rfl) (fun _ _ _ h => h) (by rfl) hSa ?_ ?_
            rotate_left
            · intro w' hS'
              (try dsimp only at hS')
              go_simp <;> with_reducible rfl
            try simp only [Act.put, List.setIfInBounds_toArray, List.set_cons_zero, List.set_cons_succ]
            refine wpAnyS_take (i := 2) (v := ?_) rfl (by kernel_rfl) (fun _ _ _ h => h) (by rfl) hSa ?_ ?_
            rotate_left
            · intro w' hS'
              have ck2 := k2 _ hS'
              go_simp <;> with_reducible rfl
            try simp only [Act.put, List.setIfInBounds_toArray, List.set_cons_zero, List.set_cons_succ]
            refine wpAnyS_take (i := 3) (v := ?_) rfl (by kernel_rfl) (fun _ _ _ h => h) (by rfl) hSa ?_ ?_
            rotate_left
            · intro w' hS'
              (try dsimp only at hS')
              go_simp <;> with_reducible rfl
            try simp only [Act.put, List.setIfInBounds_toArray, List.set_cons_zero, List.set_cons_succ]
            refine wpAnyS_take (i := 4) (v := ?_) rfl (by kernel_rfl) (fun _ _ _ h => h) (by rfl) hSa ?_ ?_
            rotate_left
            · intro w' hS'
              have ck3 := k3 _ hS'
              go_simp <;> with_reducible rfl
            try simp only [Act.put, List.setIfInBounds_toArray, List.set_cons_zero, List.set_cons_succ]
            refine wpAnyS_take (i := 5) (v := ?_) rfl (by kernel_rfl) (fun _ _ _ h => h) (by rfl) hSa ?_ ?_
            rotate_left
            · intro w' hS'
              (try dsimp only at hS')
              go_simp <;> with_reducible rfl
            try simp only [Act.put, List.setIfInBounds_toArray, List.set_cons_zero, List.set_cons_succ]
            refine wpAnyS_take (i := 6) (v := ?_) rfl (by kernel_rfl) (fun _ _ _ h => h) (by rfl) hSa ?_ ?_
            rotate_left
            · intro w' hS'
              have ck2 := k2 _ hS'
              go_simp <;> with_reducible rfl
            try simp only [Act.put, List.setIfInBounds_toArray, List.set_cons_zero, List.set_cons_succ]
            refine wpAnyS_take (i := 7) (v := ?_) rfl (by kernel_rfl) (fun _ _ _ h => h) (by rfl) hSa ?_ ?_
            rotate_left
            · intro w' hS'
              (try dsimp only at hS')
              go_simp <;> with_reducible rfl
            try simp only [Act.put, List.setIfInBounds_toArray, List.set_cons_zero, List.set_cons_succ]
            refine wpAnyS_take (i := 8) (v := ?_) rfl (by kernel_rfl) (fun _ _ _ h => h) (by rfl) hSa ?_ ?_
            rotate_left
            · intro w' hS'
              have ck4 := k4 _ hS'
              go_simp <;> with_reducible rfl
            try simp only [Act.put, List.setIfInBounds_toArray, List.set_cons_zero, List.set_cons_succ]
            refine wpAnyS_one (i := 9) rfl (by kernel_rfl) (by decide) (by rfl) fun K hK => ?_
            go_simp
            refine (cols_of tt tn _).mono ?_
            rintro e w6 ⟨v6, rfl, hv6, hf6⟩
            obtain ⟨a6, c6, rfl⟩ := hv6.shape
            have hSb := hSa.next hf6
            refine hK.out _ _ hSb ?_
            clear hK K
            try simp only [Act.put, List.setIfInBounds_toArray, List.set_cons_zero, List.set_cons_succ]
            refine wpAnyS_last (i := 10) rfl (by kernel_rfl) (by decide) (by kernel_rfl) (by rfl) fun K hK => ?_
            go_simp
            refine (st_put (HL4.out.fr0 hSb.fr) 0 rfl tt ty _ (colsU tt tn) HI.out.ok.good hv6 (by unfold colsU; split <;> simp)).mono ?_
            rintro e w7 ⟨rfl, h⟩
            refine hK.out _ _ ?_
            clear hK K
            clear hv6 hf6 hSa hSb k2 k3 k4 y0 y2 y3 y4
            have HL7 : Hid (Lies w w7 [rowsT rb (chg M1 true tt ty tn), refT qb [2, 1] [], rowsT rb2 A, refT qb2 [2, 1] [], logT lb' 100 (L ++ [(2, entOf M1 tt ty)]), bkT wo.heap.size 64 [.int .u8 tk, .int .i64 tw, .int .i64 tt, .int .i64 ty, .int .i64 tn]]) := h
            clear h HL4
            have y0 := (HL7.out.bk 5 rfl).cell 0
            have y2 := (HL7.out.bk 5 rfl).cell 2
            have y3 := (HL7.out.bk 5 rfl).cell 3
            have y4 := (HL7.out.bk 5 rfl).cell 4
            simp only [List.getElem?_cons_zero, List.getElem?_cons_succ] at y0 y2 y3 y4
            have k2 := KeptF.cell y2
            have k3 := KeptF.cell y3
            have k4 := KeptF.cell y4
            go_wp2_with fail
            refine wp_region_sink 10 (KeptF w7) (by kernel_rfl) ?_
            have hSa : KeptF w7 (World.drew w7) := KeptF.start _
            refine wpAnyS_take (i := 0) (v := ?_) rfl (by kernel_rfl) (fun _ _ _ h => h) (by rfl) hSa ?_ ?_
            rotate_left
            · intro w' hS'
              (try dsimp only at hS')
              go_simp <;> with_reducible rfl
            try simp only [Act.put, List.setIfInBounds_toArray, List.set_cons_zero, List.set_cons_succ]
            refine wpAnyS_take (i := 1) (v := ?_) rfl (by kernel_rfl) (fun _ _ _ h => h) (by rfl) hSa ?_ ?_
            rotate_left
            · intro w' hS'
              (try dsimp only at hS')
              go_simp <;> with_reducible rfl
            try simp only [Act.put, List.setIfInBounds_toArray, List.set_cons_zero, List.set_cons_succ]
            refine wpAnyS_take (i := 2) (v := ?_) rfl (by kernel_rfl) (fun _ _ _ h => h) (by rfl) hSa ?_ ?_
            rotate_left
            · intro w' hS'
              have ck2 := k2 _ hS'
              go_simp <;> with_reducible rfl
            try simp only [Act.put, List.setIfInBounds_toArray, List.set_cons_zero, List.set_cons_succ]
            refine wpAnyS_take (i := 3) (v := ?_) rfl (by kernel_rfl) (fun _ _ _ h => h) (by rfl) hSa ?_ ?_
            rotate_left
            · intro w' hS'
              (try dsimp only at hS')
              go_simp <;> with_reducible rfl
            try simp only [Act.put, List.setIfInBounds_toArray, List.set_cons_zero, List.set_cons_succ]
            refine wpAnyS_take (i := 4) (v := ?_) rfl (by kernel_rfl) (fun _ _ _ h => h) (by rfl) hSa ?_ ?_
            rotate_left
            · intro w' hS'
              have ck3 := k3 _ hS'
              go_simp <;> with_reducible rfl
            try simp only [Act.put, List.setIfInBounds_toArray, List.set_cons_zero, List.set_cons_succ]
            refine wpAnyS_take (i := 5) (v := ?_) rfl (by kernel_rfl) (fun _ _ _ h => h) (by rfl) hSa ?_ ?_
            rotate_left
            · intro w' hS'
              (try dsimp only at hS')
              go_simp <;> with_reducible rfl
            try simp only [Act.put, List.setIfInBounds_toArray, List.set_cons_zero, List.set_cons_succ]
            refine wpAnyS_take (i := 6) (v := ?_) rfl (by kernel_rfl) (fun _ _ _ h => h) (by rfl) hSa ?_ ?_
            rotate_left
            · intro w' hS'
              have ck2 := k2 _ hS'
              go_simp <;> with_reducible rfl
            try simp only [Act.put, List.setIfInBounds_toArray, List.set_cons_zero, List.set_cons_succ]
            refine wpAnyS_take (i := 7) (v := ?_) rfl (by kernel_rfl) (fun _ _ _ h => h) (by rfl) hSa ?_ ?_
            rotate_left
            · intro w' hS'
              (try dsimp only at hS')
              go_simp <;> with_reducible rfl
            try simp only [Act.put, List.setIfInBounds_toArray, List.set_cons_zero, List.set_cons_succ]
            refine wpAnyS_take (i := 8) (v := ?_) rfl (by kernel_rfl) (fun _ _ _ h => h) (by rfl) hSa ?_ ?_
            rotate_left
            · intro w' hS'
              have ck4 := k4 _ hS'
              go_simp <;> with_reducible rfl
            try simp only [Act.put, List.setIfInBounds_toArray, List.set_cons_zero, List.set_cons_succ]
            refine wpAnyS_one (i := 9) rfl (by kernel_rfl) (by decide) (by rfl) fun K hK => ?_
            go_simp
            refine (cols_of tt tn _).mono ?_
            rintro e w6 ⟨v6, rfl, hv6, hf6⟩
            obtain ⟨a6, c6, rfl⟩ := hv6.shape
            have hSb := hSa.next hf6
            refine hK.out _ _ hSb ?_
            clear hK K
            try simp only [Act.put, List.setIfInBounds_toArray, List.set_cons_zero, List.set_cons_succ]
            refine wpAnyS_last (i := 10) rfl (by kernel_rfl) (by decide) (by kernel_rfl) (by rfl) fun K hK => ?_
            go_simp
            refine (st_put (HL7.out.fr0 hSb.fr) 2 rfl tt ty _ (colsU tt tn) HI.out.okA.good hv6 (by unfold colsU; split <;> simp)).mono ?_
            rintro e w8 ⟨rfl, h⟩
            refine hK.out _ _ ?_
            clear hK K
            clear hv6 hf6 hSa hSb k2 k3 k4 y0 y2 y3 y4
            have HL8 : Hid (Lies w w8 [rowsT rb (chg M1 true tt ty tn), refT qb [2, 1] [], rowsT rb2 (chg A true tt ty tn), refT qb2 [2, 1] [], logT lb' 100 (L ++ [(2, entOf M1 tt ty)]), bkT wo.heap.size 64 [.int .u8 tk, .int .i64 tw, .int .i64 tt, .int .i64 ty, .int .i64 tn]]) := h
            clear h HL7
            have HI7 := Lib.hid (HI.out.note2 (by omega) (by have := HLi.out; omega) true HN.out ty tn HO.out)
            have z0 := (HL8.out.bk 5 rfl).cell 0
            simp only [List.getElem?_cons_zero] at z0
            go_wp2_with fail
            go_roundw
            case rel => exact ⟨i + 1, (chg A true tt ty tn), chg M1 true tt ty tn, (L ++ [(2, entOf M1 tt ty)]), by omega, by go_num, by have := HLi.out; simp; omega, HI7.out, HL8.out.take 5⟩
            case measure => simp [intOf]; omega
          · have hk1 : tk.tmod 2 = 1 := by omega
            have y0 := (HL4.out.bk 5 rfl).cell 0
            have y2 := (HL4.out.bk 5 rfl).cell 2
            have y3 := (HL4.out.bk 5 rfl).cell 3
            simp only [List.getElem?_cons_zero, List.getElem?_cons_succ] at y0 y2 y3
            go_wp2_with fail
            refine (st_del HL4.out 0 rfl tt ty HI.out.ok.good).mono ?_
            rintro e w7 ⟨rfl, h⟩
            clear y0 y2 y3
            have HL7 : Hid (Lies w w7 [rowsT rb (chg M1 false tt ty tn), refT qb [2, 1] [], rowsT rb2 A, refT qb2 [2, 1] [], logT lb' 100 (L ++ [(2, entOf M1 tt ty)]), bkT wo.heap.size 64 [.int .u8 tk, .int .i64 tw, .int .i64 tt, .int .i64 ty, .int .i64 tn]]) := h
            clear h HL4
            have y0 := (HL7.out.bk 5 rfl).cell 0
            have y2 := (HL7.out.bk 5 rfl).cell 2
            have y3 := (HL7.out.bk 5 rfl).cell 3
            simp only [List.getElem?_cons_zero, List.getElem?_cons_succ] at y0 y2 y3
            go_wp2_with fail
            refine (st_del HL7.out 2 rfl tt ty HI.out.okA.good).mono ?_
            rintro e w8 ⟨rfl, h⟩
            clear y0 y2 y3
            have HL8 : Hid (Lies w w8 [rowsT rb (chg M1 false tt ty tn), refT qb [2, 1] [], rowsT rb2 (chg A false tt ty tn), refT qb2 [2, 1] [], logT lb' 100 (L ++ [(2, entOf M1 tt ty)]), bkT wo.heap.size 64 [.int .u8 tk, .int .i64 tw, .int .i64 tt, .int .i64 ty, .int .i64 tn]]) := h
            clear h HL7
            have HI7 := Lib.hid (HI.out.note2 (by omega) (by have := HLi.out; omega) false HN.out ty tn HO.out)
            have z0 := (HL8.out.bk 5 rfl).cell 0
            simp only [List.getElem?_cons_zero] at z0
            go_wp2_with fail
            go_roundw
            case rel => exact ⟨i + 1, (chg A false tt ty tn), chg M1 false tt ty tn, (L ++ [(2, entOf M1 tt ty)]), by omega, by go_num, by have := HLi.out; simp; omega, HI7.out, HL8.out.take 5⟩
            case measure => simp [intOf]; omega

    · obtain rfl : i = la.length := by omega
      go_wp2_with fail
      refine (st_ulen HL.out 4 rfl 1 (by decide)).mono ?_
      rintro e w4 ⟨rfl, h⟩
      have HL4 := Lib.hid h
      clear h HL
      go_wp2_with fail
      go_loopw [11] (fun vn wr => ∃ (M2 : List MTab) (L2 : List (Int × Ent)), (ofL L2 1).length ≤ (ofL L 1).length ∧ L2.length ≤ 60 ∧ vn = .int .i64 ((ofL L2 1).length : Nat) ∧ InvA (200 - (ofL L2 1).length) A M2 L2 ∧ Lies w wr [rowsT rb M2, refT qb [2, 1] [], rowsT rb2 A, refT qb2 [2, 1] [], logT lb' 100 L2]) (fun vn _ => (intOf vn).toNat)
      case atStart => exact ⟨M1, L, Nat.le_refl _, by have := HLi.out; omega, rfl, HI.out.mono (by have := HLi.out; have := ofL_len L 1; omega), HL4.out⟩
      case round =>
        clear HL4 HI
        obtain ⟨M2, L2, hle, hl2, rfl, hinv, h⟩ := hrel
        have HI := Lib.hid hinv
        have HL := Lib.hid h
        have hol : (ofL L2 1).length ≤ 60 := Nat.le_trans (ofL_len L2 1) hl2
        clear hinv h
        by_cases hlt : 0 < (ofL L2 1).length
        · have hjj : (0 : Int) < ((ofL L2 1).length : Int) := by omega
          obtain ⟨hb1, hb2, hb3, hb4⟩ := HI.out.back (by omega) hlt
          have HI4 := Lib.hid hb1
          have HB2 := Lib.hid hb2
          have HB4 := Lib.hid hb4
          clear hb1 hb2 hb4
          go_wp2_with fail
          refine (st_back HL.out 4 0 rfl rfl (by decide) 1 HI.out.ok.good (by decide) (by omega)).mono ?_
          rintro e w6 ⟨he, h⟩
          rw [hb3] at he
          subst he
          have HL6 : Hid (Lies w w6 [rowsT rb (backM M2 L2 1), refT qb [2, 1] [], rowsT rb2 A, refT qb2 [2, 1] [], logT lb' 100 (backL L2 1)]) := h
          clear h HL hb3
          go_wp2_with fail
          go_roundw
          case rel => exact ⟨backM M2 L2 1, backL L2 1, by have := HB2.out; omega, by have := HB4.out; omega, by rw [show ((ofL L2 1).length : Int) - 1 = ((ofL (backL L2 1) 1).length : Int) by have := HB2.out; omega], HI4.out.mono (by have := HB2.out; omega), HL6.out⟩
          case measure => have := HB2.out; simp only [intOf]; omega
        · have hjj : ((ofL L2 1).length : Int) = 0 := by omega
          obtain ⟨rfl, hfg⟩ := HI.out.done (by omega)
          go_wp2_with fail
          refine (st_forget HL.out 4 rfl 2 (by decide) (by omega)).mono ?_
          rintro e w4 ⟨rfl, h⟩
          rw [hfg] at h
          have HL4 := Lib.hid h
          clear h HL
          go_wp2_with fail
          refine (st_same HL4.out 0 2 rfl rfl HI.out.ok.good HI.out.ok.good).mono ?_
          rintro e w5 ⟨he, h⟩
          rw [decide_eq_true rfl] at he
          subst he
          have HL5 := Lib.hid h
          clear h HL4
          go_wp2_with fail
          refine (st_used HL5.out 4 rfl).mono ?_
          rintro e w6 ⟨rfl, h⟩
          have HL6 := Lib.hid h
          clear h HL5
          go_wp2_with fail
          refine (st_ulen HL6.out 4 rfl 2 (by decide)).mono ?_
          rintro e w7 ⟨rfl, h⟩
          have HL7 := Lib.hid h
          clear h HL6
          go_wp2_with fail
          refine (works_any _).mono ?_
          rintro e w8 ⟨rfl, hf⟩
          have HF := Lib.hid (HL7.out.fr.trans0 hf)
          clear hf
          go_wp2_with fail
          go_ret
          exact ⟨rfl, HF.out⟩
theorem apartlaw_any (ha : UCallsAt w va la) :
    Calls Try.prog 7 #[va] w fun e w' => e = .returned (.bool true) ∧ Fr w w' Nil := by
  by_cases h1 : la.length ≤ 60
  · exact apartlaw_main va la w ha h1
  · exact apartlaw_early va la w ha (by omega)
end
end Go.Proofs.Ytjpenaodkfljhaa
