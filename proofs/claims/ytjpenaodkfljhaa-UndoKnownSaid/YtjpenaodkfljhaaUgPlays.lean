/-
  Walk of does (interlocklaw14): a call on both.
  The walk of UndoPlays: it answers true.
-/
import Derived.Test.YtjpenaodkfljhaaUgState
import Derived.Test.YtjpenaodkfljhaaQTail
import Derived.Test.YtjpenaodkfljhaaSink
namespace Go.Proofs.Ytjpenaodkfljhaa
open Go Go.RowKit

structure InvP (N : Nat) (M : List MTab) (L : List (Int × Ent)) : Prop where
  ok : Ok N M
  len : L.length ≤ N
  wf : ∀ p ∈ L, (Lit.int .i64 p.1).wf = true
theorem InvP.mono {N N' : Nat} {M : List MTab} {L : List (Int × Ent)} (h : InvP N M L) (hn : N ≤ N') : InvP N' M L := ⟨h.ok.mono hn, Nat.le_trans h.len hn, h.wf⟩
theorem InvP.back {N : Nat} {M : List MTab} {L : List (Int × Ent)} (h : InvP N M L) (hN : N < 1000) (who : Int) : InvP (N + 1) (backM M L who) (backL L who) := by
  have hs : ∀ p ∈ backL L who, p ∈ L := fun p hp => by
    unfold backL at hp
    split at hp
    · exact hp
    · exact List.mem_of_mem_eraseIdx hp
  refine ⟨ok_back h.ok (by omega) L who, ?_, fun p hp => h.wf p (hs p hp)⟩
  have : (backL L who).length ≤ L.length := by
    unfold backL
    split
    · exact Nat.le_refl _
    · exact List.length_eraseIdx_le _ _
  have := h.len
  omega
theorem InvP.forget {N : Nat} {M : List MTab} {L : List (Int × Ent)} (h : InvP N M L) (who : Int) : InvP N M (forgetL L who) := by
  refine ⟨h.ok, ?_, fun p hp => h.wf p (List.mem_filter.1 hp).1⟩
  have := forget_len L who
  have := h.len
  omega
theorem InvP.note {N : Nat} {M : List MTab} {L : List (Int × Ent)} (h : InvP N M L) {who : Int} (hw : (Lit.int .i64 who).wf = true) (e : Ent) : InvP (N + 1) M (L ++ [(who, e)]) := by
  refine ⟨h.ok.mono (Nat.le_succ _), ?_, fun p hp => ?_⟩
  · have := h.len; simp; omega
  · rcases List.mem_append.1 hp with hp | hp
    · exact h.wf p hp
    · rw [List.mem_singleton.1 hp]; exact hw
theorem InvP.put {N : Nat} {M : List MTab} {L : List (Int × Ent)} {who : Int} {e : Ent} (h : InvP N M L) (hN : N < 1000) (hw : (Lit.int .i64 who).wf = true) (t k : Int) (xs : List Int) : InvP (N + 1) (mput M t k xs).1 (L ++ [(who, e)]) := ⟨h.ok.put (by omega) t k xs, (h.note hw e).len, (h.note hw e).wf⟩
theorem InvP.del {N : Nat} {M : List MTab} {L : List (Int × Ent)} {who : Int} {e : Ent} (h : InvP N M L) (hw : (Lit.int .i64 who).wf = true) (t k : Int) : InvP (N + 1) (mdel M t k).1 (L ++ [(who, e)]) := ⟨(h.ok.del t k).mono (Nat.le_succ _), (h.note hw e).len, (h.note hw e).wf⟩
def DoesRet (lb db rb qb : Nat) (most : Int) (N : Nat) (w0 : World) (e : Ending) (W' : World) : Prop :=
  e = .returned (.bool true) ∧ ∃ M' L', InvP N M' L' ∧ Lies w0 W' [logT lb most L', dlogT db most L', rowsT rb M', refM qb M']
/-- What Note answers, in three. -/
theorem note_three (M : List MTab) (most : Int) (L : List (Int × Ent)) (who t k : Int) : (noteE M most L t = 2 ∧ noteD M most L t = 1 ∧ noteL M most L who t k = L) ∨ (noteE M most L t = 3 ∧ noteD M most L t = 2 ∧ noteL M most L who t k = L) ∨
    (noteE M most L t = 0 ∧ noteD M most L t = 0 ∧ noteL M most L who t k = L ++ [(who, entOf M t k)]) := by
  unfold noteL noteE noteD
  by_cases h0 : (mtab M t).1 = 0
  · rw [if_pos h0, if_pos h0]; exact .inl ⟨rfl, rfl, if_neg (by decide)⟩
  · rw [if_neg h0, if_neg h0]
    by_cases h1 : most ≤ (L.length : Int)
    · rw [if_pos h1, if_pos h1]; exact .inr (.inl ⟨rfl, rfl, if_neg (by decide)⟩)
    · rw [if_neg h1, if_neg h1]; exact .inr (.inr ⟨rfl, rfl, if_pos rfl⟩)
set_option maxRecDepth 100000 in
set_option maxHeartbeats 4000000 in
theorem udoes_any {w0 w : World} {lb db rb qb N : Nat} {most : Int} {L : List (Int × Ent)} {M : List MTab} (x : UCall) (h : Lies w0 w [logT lb most L, dlogT db most L, rowsT rb M, refM qb M]) (hi : InvP N M L) (hN : N < 300) :
    Calls Try.prog 29 #[lptr lb, rptr db, rptr rb, rptr qb, .agg #[.int .u8 x.kind, .int .i64 x.who, .int .i64 x.table, .int .i64 x.key, .int .i64 x.n]] w (DoesRet lb db rb qb most (N + 1) w0) := by
  obtain ⟨tk, tw, tt, ty, tn, tok, tow, toy⟩ := x
  simp only
  have HI := Lib.hid hi
  have HLn := Lib.hid hi.len
  have HW := Lib.hid tow
  have e8 := Int.tmod_eq_emod_of_nonneg (b := 8) tok.1
  have HLx := Lib.hid (h.newBk 64 #[.int .u8 tk, .int .i64 tw, .int .i64 tt, .int .i64 ty, .int .i64 tn])
  have x0 := (HLx.out.bk 4 rfl).cell 0
  have x1 := (HLx.out.bk 4 rfl).cell 1
  have x2 := (HLx.out.bk 4 rfl).cell 2
  have x3 := (HLx.out.bk 4 rfl).cell 3
  simp only [List.getElem?_cons_zero, List.getElem?_cons_succ] at x0 x1 x2 x3
  clear h hi
  obtain ⟨kd, hkd⟩ : ∃ kd : Int, tk.tmod 8 = kd := ⟨_, rfl⟩
  have hkr : 0 ≤ kd ∧ kd < 8 := by omega
  clear e8
  by_cases k5 : kd = 5
  · subst k5
    have kx : ∀ w' : World, w'.cell? ⟨w.heap.size, 1, none⟩ = some (.int .i64 tw) → w'.cell? ⟨w.heap.size, 1, none⟩ = some (.int .i64 tw) := fun _ h => h
    go_enter Try.func29, Try.ntmps29
    go_wp2_with fail
    refine wp_region_sink 11 (fun w' => w'.cell? ⟨w.heap.size, 1, none⟩ = some (.int .i64 tw)) (by kernel_rfl) ?_
    have hSa : (fun w' : World => w'.cell? ⟨w.heap.size, 1, none⟩ = some (.int .i64 tw)) (World.drew (w.alloc (.cells #[.int .u8 tk, .int .i64 tw, .int .i64 tt, .int .i64 ty, .int .i64 tn] 64))) := x1
    refine wpAnyS_take (i := 0) (v := ?_) rfl (by kernel_rfl) (fun _ _ _ h => h) (by rfl) hSa ?_ ?_
    rotate_left
    · intro w' hS'
      (try dsimp only at hS')
      go_simp <;> with_reducible rfl
    try simp only [Act.put, List.setIfInBounds_toArray, List.set_cons_zero, List.set_cons_succ]
    refine wpAnyS_take (i := 1) (v := ?_) rfl (by kernel_rfl) (fun _ _ _ h => h) (by rfl) hSa ?_ ?_
    rotate_left
    · intro w' hS'
      (try dsimp only at hS')
      go_simp <;> with_reducible rfl
    try simp only [Act.put, List.setIfInBounds_toArray, List.set_cons_zero, List.set_cons_succ]
    refine wpAnyS_take (i := 2) (v := ?_) rfl (by kernel_rfl) (fun _ _ _ h => h) (by rfl) hSa ?_ ?_
    rotate_left
    · intro w' hS'
      have ckx := kx _ hS'
      go_simp <;> with_reducible rfl
    try simp only [Act.put, List.setIfInBounds_toArray, List.set_cons_zero, List.set_cons_succ]
    refine wpAnyS_take (i := 3) (v := ?_) rfl (by kernel_rfl) (fun _ _ _ h => h) (by rfl) hSa ?_ ?_
    rotate_left
    · intro w' hS'
      (try dsimp only at hS')
      go_simp <;> with_reducible rfl
    try simp only [Act.put, List.setIfInBounds_toArray, List.set_cons_zero, List.set_cons_succ]
    refine wpAnyS_take (i := 5) (v := ?_) rfl (by kernel_rfl) (fun _ _ _ h => h) (by rfl) hSa ?_ ?_
    rotate_left
    · intro w' hS'
      (try dsimp only at hS')
      go_simp <;> with_reducible rfl
    try simp only [Act.put, List.setIfInBounds_toArray, List.set_cons_zero, List.set_cons_succ]
    refine wpAnyS_take (i := 6) (v := ?_) rfl (by kernel_rfl) (fun _ _ _ h => h) (by rfl) hSa ?_ ?_
    rotate_left
    · intro w' hS'
      (try dsimp only at hS')
      go_simp <;> with_reducible rfl
    try simp only [Act.put, List.setIfInBounds_toArray, List.set_cons_zero, List.set_cons_succ]
    refine wpAnyS_take (i := 7) (v := ?_) rfl (by kernel_rfl) (fun _ _ _ h => h) (by rfl) hSa ?_ ?_
    rotate_left
    · intro w' hS'
      have ckx := kx _ hS'
      go_simp <;> with_reducible rfl
    try simp only [Act.put, List.setIfInBounds_toArray, List.set_cons_zero, List.set_cons_succ]
    refine wpAnyS_take (i := 8) (v := ?_) rfl (by kernel_rfl) (fun _ _ _ h => h) (by rfl) hSa ?_ ?_
    rotate_left
    · intro w' hS'
      (try dsimp only at hS')
      go_simp <;> with_reducible rfl
    try simp only [Act.put, List.setIfInBounds_toArray, List.set_cons_zero, List.set_cons_succ]
    refine wpAnyS_one (i := 4) rfl (by kernel_rfl) (by decide) (by rfl) fun K hK => ?_
    go_simp
    refine (st_back (HLx.out.fr0 ((Fr.refl _ Nil).drew)) 0 2 rfl rfl (by decide) tw HI.out.ok.good HW.out (by have := HLn.out; omega)).mono ?_
    rintro e w5 ⟨rfl, h⟩
    have HL5 : Hid (Lies w0 w5 [logT lb most (backL L tw), dlogT db most L, rowsT rb (backM M L tw), refM qb M, bkT w.heap.size 64 [.int .u8 tk, .int .i64 tw, .int .i64 tt, .int .i64 ty, .int .i64 tn]]) := h
    have z1 := (HL5.out.bk 4 rfl).cell 1
    simp only [List.getElem?_cons_zero, List.getElem?_cons_succ] at z1
    have hSb : (fun w' : World => w'.cell? ⟨w.heap.size, 1, none⟩ = some (.int .i64 tw)) w5 := z1
    refine hK.out _ _ hSb ?_
    clear hK K h HLx x0 x1 x2 x3 hSa z1
    try simp only [Act.put, List.setIfInBounds_toArray, List.set_cons_zero, List.set_cons_succ]
    refine wpAnyS_one (i := 9) rfl (by kernel_rfl) (by decide) (by rfl) fun K hK => ?_
    go_simp
    refine (st_dback HL5.out 1 3 rfl rfl (by decide) tw HI.out.ok.good HI.out.ok.few (by omega) (by have := HLn.out; omega)).mono ?_
    rintro e w6 ⟨rfl, h⟩
    have HL6 : Hid (Lies w0 w6 [logT lb most (backL L tw), dlogT db most (backL L tw), rowsT rb (backM M L tw), refM qb (backM M L tw), bkT w.heap.size 64 [.int .u8 tk, .int .i64 tw, .int .i64 tt, .int .i64 ty, .int .i64 tn]]) := h
    have z1 := (HL6.out.bk 4 rfl).cell 1
    simp only [List.getElem?_cons_zero, List.getElem?_cons_succ] at z1
    have hSc : (fun w' : World => w'.cell? ⟨w.heap.size, 1, none⟩ = some (.int .i64 tw)) w6 := z1
    refine hK.out _ _ hSc ?_
    clear hK K h HL5 hSb z1
    try simp only [Act.put, List.setIfInBounds_toArray, List.set_cons_zero, List.set_cons_succ]
    refine wpAnyS_take (i := 10) (v := ?_) rfl (by kernel_rfl) (fun _ _ _ h => h) (by rfl) hSc ?_ ?_
    rotate_left
    · intro w' hS'
      (try dsimp only at hS')
      go_simp <;> with_reducible rfl
    try simp only [Act.put, List.setIfInBounds_toArray, List.set_cons_zero, List.set_cons_succ]
    clear hSc
    refine wpAnyS_last (i := 11) rfl (by kernel_rfl) (by decide) (by kernel_rfl) (by rfl) fun K hK => ?_
    go_simp
    refine hK.out _ _ ?_
    clear hK K
    go_wp2_with fail
    go_ret
    exact ⟨rfl, _, _, HI.out.back (by omega) tw, HL6.out.take 4⟩
  by_cases k6 : kd = 6
  · subst k6
    go_enter Try.func29, Try.ntmps29
    go_wp2_with fail
    refine (st_forget HLx.out 0 rfl tw HW.out (by have := HLn.out; omega)).mono ?_
    rintro e w5 ⟨rfl, h⟩
    have HL5 : Hid (Lies w0 w5 [logT lb most (forgetL L tw), dlogT db most L, rowsT rb M, refM qb M, bkT w.heap.size 64 [.int .u8 tk, .int .i64 tw, .int .i64 tt, .int .i64 ty, .int .i64 tn]]) := h
    have z1 := (HL5.out.bk 4 rfl).cell 1
    simp only [List.getElem?_cons_zero, List.getElem?_cons_succ] at z1
    clear h HLx x0 x1 x2 x3
    go_wp2_with fail
    refine (st_dforget HL5.out 1 rfl tw (by have := HLn.out; omega)).mono ?_
    rintro e w6 ⟨rfl, h⟩
    have HL6 : Hid (Lies w0 w6 [logT lb most (forgetL L tw), dlogT db most (forgetL L tw), rowsT rb M, refM qb M, bkT w.heap.size 64 [.int .u8 tk, .int .i64 tw, .int .i64 tt, .int .i64 ty, .int .i64 tn]]) := h
    clear h HL5 z1
    go_wp2_with fail
    go_ret
    exact ⟨rfl, _, _, (HI.out.forget tw).mono (Nat.le_succ _), HL6.out.take 4⟩
  go_enter Try.func29, Try.ntmps29
  go_wp2_with fail
  refine (st_note HLx.out 0 2 rfl rfl tw tt ty HI.out.ok.good HW.out (by have := HLn.out; omega)).mono ?_
  rintro e w5 ⟨he, h⟩
  have HL5 : Hid (Lies w0 w5 [logT lb most (noteL M most L tw tt ty), dlogT db most L, rowsT rb M, refM qb M, bkT w.heap.size 64 [.int .u8 tk, .int .i64 tw, .int .i64 tt, .int .i64 ty, .int .i64 tn]]) := h
  have HE := Lib.hid he
  have z1 := (HL5.out.bk 4 rfl).cell 1
  have z2 := (HL5.out.bk 4 rfl).cell 2
  have z3 := (HL5.out.bk 4 rfl).cell 3
  simp only [List.getElem?_cons_zero, List.getElem?_cons_succ] at z1 z2 z3
  clear h HLx x0 x1 x2 x3 he
  rcases note_three M most L tw tt ty with ⟨n1, n2, n3⟩ | ⟨n1, n2, n3⟩ | ⟨n1, n2, n3⟩
  · have he := HE.out
    rw [n1] at he
    subst he
    rw [n3] at HL5
    have HN2 := Lib.hid n2
    have HN3 := Lib.hid n3
    clear HE n1 n2 n3
    go_wp2_with fail
    refine (st_dnote HL5.out 1 3 rfl rfl tw tt ty HI.out.ok.good HI.out.ok.few (by omega) (by have := HLn.out; omega)).mono ?_
    rintro e w6 ⟨he, h⟩
    rw [HN2.out] at he
    rw [HN3.out] at h
    subst he
    have HL6 : Hid (Lies w0 w6 [logT lb most L, dlogT db most L, rowsT rb M, refM qb M, bkT w.heap.size 64 [.int .u8 tk, .int .i64 tw, .int .i64 tt, .int .i64 ty, .int .i64 tn]]) := h
    clear h HL5 z1 z2 z3
    go_wp2_with fail
    go_ret
    exact ⟨rfl, _, _, HI.out.mono (Nat.le_succ _), HL6.out.take 4⟩
  · have he := HE.out
    rw [n1] at he
    subst he
    rw [n3] at HL5
    have HN2 := Lib.hid n2
    have HN3 := Lib.hid n3
    clear HE n1 n2 n3
    go_wp2_with fail
    refine (st_dnote HL5.out 1 3 rfl rfl tw tt ty HI.out.ok.good HI.out.ok.few (by omega) (by have := HLn.out; omega)).mono ?_
    rintro e w6 ⟨he, h⟩
    rw [HN2.out] at he
    rw [HN3.out] at h
    subst he
    have HL6 : Hid (Lies w0 w6 [logT lb most L, dlogT db most L, rowsT rb M, refM qb M, bkT w.heap.size 64 [.int .u8 tk, .int .i64 tw, .int .i64 tt, .int .i64 ty, .int .i64 tn]]) := h
    clear h HL5 z1 z2 z3
    go_wp2_with fail
    go_ret
    exact ⟨rfl, _, _, HI.out.mono (Nat.le_succ _), HL6.out.take 4⟩
  · have he := HE.out
    rw [n1] at he
    subst he
    rw [n3] at HL5
    have HN2 := Lib.hid n2
    have HN3 := Lib.hid n3
    clear HE n1 n2 n3
    go_wp2_with fail
    refine (st_dnote HL5.out 1 3 rfl rfl tw tt ty HI.out.ok.good HI.out.ok.few (by omega) (by have := HLn.out; omega)).mono ?_
    rintro e w6 ⟨he, h⟩
    rw [HN2.out] at he
    rw [HN3.out] at h
    subst he
    have HL6 : Hid (Lies w0 w6 [logT lb most (L ++ [(tw, entOf M tt ty)]), dlogT db most (L ++ [(tw, entOf M tt ty)]), rowsT rb M, refM qb M, bkT w.heap.size 64 [.int .u8 tk, .int .i64 tw, .int .i64 tt, .int .i64 ty, .int .i64 tn]]) := h
    have y0 := (HL6.out.bk 4 rfl).cell 0
    simp only [List.getElem?_cons_zero] at y0
    clear h HL5 z1 z2 z3
    by_cases k4' : kd < 4
    · have k4n : ¬ kd = 4 := by omega
      have y2 := (HL6.out.bk 4 rfl).cell 2
      have y3 := (HL6.out.bk 4 rfl).cell 3
      have y4 := (HL6.out.bk 4 rfl).cell 4
      simp only [List.getElem?_cons_zero, List.getElem?_cons_succ] at y2 y3 y4
      have k2 := KeptF.cell y2
      have k3 := KeptF.cell y3
      have k4 := KeptF.cell y4
      go_wp2_with fail
      refine wp_region_sink 10 (KeptF w6) (by kernel_rfl) ?_
      have hSa : KeptF w6 (World.drew w6) := KeptF.start _
      refine wpAnyS_take (i := 0) (v := ?_) rfl (by kernel_rfl) (fun _ _ _ h => h) (by rfl) hSa ?_ ?_
      rotate_left
      · intro w' hS'
        (try dsimp only at hS')
        go_simp <;> with_reducible rfl
      try simp only [Act.put, List.setIfInBounds_toArray, List.set_cons_zero, List.set_cons_succ]
      refine wpAnyS_take (i := 1) (v := ?_) rfl (by kernel_rfl) (fun _ _ _ h => h) (by rfl) hSa ?_ ?_
      rotate_left
      · intro w' hS'
        (try dsimp only at hS')
        go_simp <;> with_reducible rfl
      try simp only [Act.put, List.setIfInBounds_toArray, List.set_cons_zero, List.set_cons_succ]
      refine wpAnyS_take (i := 2) (v := ?_) rfl (by kernel_rfl) (fun _ _ _ h => h) (by rfl) hSa ?_ ?_
      rotate_left
      · intro w' hS'
        have ck2 := k2 _ hS'
        go_simp <;> with_reducible rfl
      try simp only [Act.put, List.setIfInBounds_toArray, List.set_cons_zero, List.set_cons_succ]
      refine wpAnyS_take (i := 3) (v := ?_) rfl (by kernel_rfl) (fun _ _ _ h => h) (by rfl) hSa ?_ ?_
      rotate_left
      · intro w' hS'
        (try dsimp only at hS')
        go_simp <;> with_reducible rfl
      try simp only [Act.put, List.setIfInBounds_toArray, List.set_cons_zero, List.set_cons_succ]
      refine wpAnyS_take (i := 4) (v := ?_) rfl (by kernel_rfl) (fun _ _ _ h => h) (by rfl) hSa ?_ ?_
      rotate_left
      · intro w' hS'
        have ck3 := k3 _ hS'
        go_simp <;> with_reducible rfl
      try simp only [Act.put, List.setIfInBounds_toArray, List.set_cons_zero, List.set_cons_succ]
      refine wpAnyS_take (i := 5) (v := ?_) rfl (by kernel_rfl) (fun _ _ _ h => h) (by rfl) hSa ?_ ?_
      rotate_left
      · intro w' hS'
        (try dsimp only at hS')
        go_simp <;> with_reducible rfl
      try simp only [Act.put, List.setIfInBounds_toArray, List.set_cons_zero, List.set_cons_succ]
      refine wpAnyS_take (i := 6) (v := ?_) rfl (by kernel_rfl) (fun _ _ _ h => h) (by rfl) hSa ?_ ?_
      rotate_left
      · intro w' hS'
        have ck2 := k2 _ hS'
        go_simp <;> with_reducible rfl
      try simp only [Act.put, List.setIfInBounds_toArray, List.set_cons_zero, List.set_cons_succ]
      refine wpAnyS_take (i := 7) (v := ?_) rfl (by kernel_rfl) (fun _ _ _ h => h) (by rfl) hSa ?_ ?_
      rotate_left
      · intro w' hS'
        (try dsimp only at hS')
        go_simp <;> with_reducible rfl
      try simp only [Act.put, List.setIfInBounds_toArray, List.set_cons_zero, List.set_cons_succ]
      refine wpAnyS_take (i := 8) (v := ?_) rfl (by kernel_rfl) (fun _ _ _ h => h) (by rfl) hSa ?_ ?_
      rotate_left
      · intro w' hS'
        have ck4 := k4 _ hS'
        go_simp <;> with_reducible rfl
      try simp only [Act.put, List.setIfInBounds_toArray, List.set_cons_zero, List.set_cons_succ]
      refine wpAnyS_one (i := 9) rfl (by kernel_rfl) (by decide) (by rfl) fun K hK => ?_
      go_simp
      refine (cols_new tt tn _).mono ?_
      rintro e w6 ⟨v6, rfl, hv6, hn6, hf6⟩
      obtain ⟨a6, c6, rfl⟩ := hv6.shape
      have hSb := hSa.next hf6
      refine hK.out _ _ hSb ?_
      clear hK K
      try simp only [Act.put, List.setIfInBounds_toArray, List.set_cons_zero, List.set_cons_succ]
      refine wpAnyS_last (i := 10) rfl (by kernel_rfl) (by decide) (by kernel_rfl) (by rfl) fun K hK => ?_
      go_simp
      refine (st_put (HL6.out.fr0 hSb.fr) 2 rfl tt ty _ (colsU tt tn) HI.out.ok.good hv6 (by unfold colsU; split <;> simp)).mono ?_
      rintro e w7 ⟨rfl, h⟩
      refine hK.out _ _ ?_
      clear hK K
      clear hv6 hn6 hf6 hSa hSb k2 k3 k4 y2 y3 y4

      have HL7 : Hid (Lies w0 w7 [logT lb most (L ++ [(tw, entOf M tt ty)]), dlogT db most (L ++ [(tw, entOf M tt ty)]), rowsT rb (mput M tt ty (colsU tt tn)).1, refM qb M, bkT w.heap.size 64 [.int .u8 tk, .int .i64 tw, .int .i64 tt, .int .i64 ty, .int .i64 tn]]) := h
      clear h HL6 y0
      have y2 := (HL7.out.bk 4 rfl).cell 2
      have y3 := (HL7.out.bk 4 rfl).cell 3
      have y4 := (HL7.out.bk 4 rfl).cell 4
      simp only [List.getElem?_cons_zero, List.getElem?_cons_succ] at y2 y3 y4
      have k2 := KeptF.cell y2
      have k3 := KeptF.cell y3
      have k4 := KeptF.cell y4
      go_wp2_with fail
      refine wp_region_sink 10 (KeptF w7) (by kernel_rfl) ?_
      have hSa : KeptF w7 (World.drew w7) := KeptF.start _
      refine wpAnyS_take (i := 0) (v := ?_) rfl (by kernel_rfl) (fun _ _ _ h => h) (by rfl) hSa ?_ ?_
      rotate_left
      · intro w' hS'
        (try dsimp only at hS')
        go_simp <;> with_reducible rfl
      try simp only [Act.put, List.setIfInBounds_toArray, List.set_cons_zero, List.set_cons_succ]
      refine wpAnyS_take (i := 1) (v := ?_) rfl (by kernel_rfl) (fun _ _ _ h => h) (by rfl) hSa ?_ ?_
      rotate_left
      · intro w' hS'
        (try dsimp only at hS')
        go_simp <;> with_reducible rfl
      try simp only [Act.put, List.setIfInBounds_toArray, List.set_cons_zero, List.set_cons_succ]
      refine wpAnyS_take (i := 2) (v := ?_) rfl (by kernel_rfl) (fun _ _ _ h => h) (by rfl) hSa ?_ ?_
      rotate_left
      · intro w' hS'
        have ck2 := k2 _ hS'
        go_simp <;> with_reducible rfl
      try simp only [Act.put, List.setIfInBounds_toArray, List.set_cons_zero, List.set_cons_succ]
      refine wpAnyS_take (i := 3) (v := ?_) rfl (by kernel_rfl) (fun _ _ _ h => h) (by rfl) hSa ?_ ?_
      rotate_left
      · intro w' hS'
        (try dsimp only at hS')
        go_simp <;> with_reducible rfl
      try simp only [Act.put, List.setIfInBounds_toArray, List.set_cons_zero, List.set_cons_succ]
      refine wpAnyS_take (i := 4) (v := ?_) rfl (by kernel_rfl) (fun _ _ _ h => h) (by rfl) hSa ?_ ?_
      rotate_left
      · intro w' hS'
        have ck3 := k3 _ hS'
        go_simp <;> with_reducible rfl
      try simp only [Act.put, List.setIfInBounds_toArray, List.set_cons_zero, List.set_cons_succ]
      refine wpAnyS_take (i := 5) (v := ?_) rfl (by kernel_rfl) (fun _ _ _ h => h) (by rfl) hSa ?_ ?_
      rotate_left
      · intro w' hS'
        (try dsimp only at hS')
        go_simp <;> with_reducible rfl
      try simp only [Act.put, List.setIfInBounds_toArray, List.set_cons_zero, List.set_cons_succ]
      refine wpAnyS_take (i := 6) (v := ?_) rfl (by kernel_rfl) (fun _ _ _ h => h) (by rfl) hSa ?_ ?_
      rotate_left
      · intro w' hS'
        have ck2 := k2 _ hS'
        go_simp <;> with_reducible rfl
      try simp only [Act.put, List.setIfInBounds_toArray, List.set_cons_zero, List.set_cons_succ]
      refine wpAnyS_take (i := 7) (v := ?_) rfl (by kernel_rfl) (fun _ _ _ h => h) (by rfl) hSa ?_ ?_
      rotate_left
      · intro w' hS'
        (try dsimp only at hS')
        go_simp <;> with_reducible rfl
      try simp only [Act.put, List.setIfInBounds_toArray, List.set_cons_zero, List.set_cons_succ]
      refine wpAnyS_take (i := 8) (v := ?_) rfl (by kernel_rfl) (fun _ _ _ h => h) (by rfl) hSa ?_ ?_
      rotate_left
      · intro w' hS'
        have ck4 := k4 _ hS'
        go_simp <;> with_reducible rfl
      try simp only [Act.put, List.setIfInBounds_toArray, List.set_cons_zero, List.set_cons_succ]
      refine wpAnyS_one (i := 9) rfl (by kernel_rfl) (by decide) (by rfl) fun K hK => ?_
      go_simp
      refine (cols_new tt tn _).mono ?_
      rintro e w6 ⟨v6, rfl, hv6, hn6, hf6⟩
      obtain ⟨a6, c6, rfl⟩ := hv6.shape
      have hSb := hSa.next hf6
      refine hK.out _ _ hSb ?_
      clear hK K
      try simp only [Act.put, List.setIfInBounds_toArray, List.set_cons_zero, List.set_cons_succ]
      refine wpAnyS_last (i := 10) rfl (by kernel_rfl) (by decide) (by kernel_rfl) (by rfl) fun K hK => ?_
      go_simp
      refine (st_qput (HL7.out.fr0 hSb.fr) 3 rfl tt ty _ (colsU tt tn) HI.out.ok.good HI.out.ok.few (by omega) hv6 (fun k hk e => by have := hn6 k hk; have := HL7.out.qlt 3 rfl; simp at *; omega) (by unfold colsU; split <;> simp)).mono ?_
      rintro e w8 ⟨rfl, h⟩
      refine hK.out _ _ ?_
      clear hK K
      clear hv6 hn6 hf6 hSa hSb k2 k3 k4 y2 y3 y4

      have HL8 : Hid (Lies w0 w8 [logT lb most (L ++ [(tw, entOf M tt ty)]), dlogT db most (L ++ [(tw, entOf M tt ty)]), rowsT rb (mput M tt ty (colsU tt tn)).1, refM qb (mput M tt ty (colsU tt tn)).1, bkT w.heap.size 64 [.int .u8 tk, .int .i64 tw, .int .i64 tt, .int .i64 ty, .int .i64 tn]]) := h
      have y0 := (HL8.out.bk 4 rfl).cell 0
      simp only [List.getElem?_cons_zero] at y0
      clear h HL7
      go_wp2_with fail
      go_ret
      exact ⟨rfl, _, _, HI.out.put (by omega) HW.out tt ty (colsU tt tn), HL8.out.take 4⟩
    · by_cases k4'' : kd = 4
      · subst k4''
        have y2 := (HL6.out.bk 4 rfl).cell 2
        have y3 := (HL6.out.bk 4 rfl).cell 3
        simp only [List.getElem?_cons_zero, List.getElem?_cons_succ] at y2 y3
        go_wp2_with fail
        refine (st_del HL6.out 2 rfl tt ty HI.out.ok.good).mono ?_
        rintro e w7 ⟨rfl, h⟩
        have HL7 : Hid (Lies w0 w7 [logT lb most (L ++ [(tw, entOf M tt ty)]), dlogT db most (L ++ [(tw, entOf M tt ty)]), rowsT rb (mdel M tt ty).1, refM qb M, bkT w.heap.size 64 [.int .u8 tk, .int .i64 tw, .int .i64 tt, .int .i64 ty, .int .i64 tn]]) := h
        clear h HL6 y0 y2 y3
        have y2 := (HL7.out.bk 4 rfl).cell 2
        have y3 := (HL7.out.bk 4 rfl).cell 3
        simp only [List.getElem?_cons_zero, List.getElem?_cons_succ] at y2 y3
        go_wp2_with fail
        refine (st_qdel HL7.out 3 rfl tt ty HI.out.ok.good HI.out.ok.few (by omega)).mono ?_
        rintro e w8 ⟨rfl, h⟩
        have HL8 : Hid (Lies w0 w8 [logT lb most (L ++ [(tw, entOf M tt ty)]), dlogT db most (L ++ [(tw, entOf M tt ty)]), rowsT rb (mdel M tt ty).1, refM qb (mdel M tt ty).1, bkT w.heap.size 64 [.int .u8 tk, .int .i64 tw, .int .i64 tt, .int .i64 ty, .int .i64 tn]]) := h
        clear h HL7 y2 y3
        go_wp2_with fail
        go_ret
        exact ⟨rfl, _, _, HI.out.del HW.out tt ty, HL8.out.take 4⟩
      · go_wp2_with fail
        go_ret
        exact ⟨rfl, _, _, HI.out.note HW.out _, HL6.out.take 4⟩
end Go.Proofs.Ytjpenaodkfljhaa
namespace Go.Proofs.Ytjpenaodkfljhaa
open Go Go.RowKit

section
variable (most : Int) (va : Value) (la : List UCall) (w : World)
set_option maxRecDepth 100000 in
set_option maxHeartbeats 1000000 in
theorem uplays_early (ha : UCallsAt w va la) (hE : 60 < la.length) :
    Calls Try.prog 5 #[.int .i64 most, va] w fun e w' => e = .returned (.bool true) ∧ Fr w w' Nil := by
  obtain ⟨aa, ca, rfl, hca⟩ := ha.shape
  clear ha
  have h1' : (60 : Int) < (la.length : Int) := by omega
  go_enter Try.func5, Try.ntmps5
  go_wp2_with fail
  refine (works_any _).mono ?_
  rintro e w9 ⟨rfl, hf⟩
  have HF := Lib.hid hf
  clear hf
  go_wp2_with fail
  go_ret
  exact ⟨rfl, HF.out⟩
set_option maxRecDepth 100000 in
set_option maxHeartbeats 4000000 in
theorem uplays_main (ha : UCallsAt w va la) (h1 : la.length ≤ 60) :
    Calls Try.prog 5 #[.int .i64 most, va] w fun e w' => e = .returned (.bool true) ∧ Fr w w' Nil := by
  obtain ⟨aa, ca, rfl, hca⟩ := ha.shape
  have HA := Lib.hid ha
  have h1' : ¬ (60 : Int) < (la.length : Int) := by omega
  clear ha
  go_enter Try.func5, Try.ntmps5
  go_wp2_with fail
  refine (st_new (Lies.nil (Fr.refl w Nil)) most).mono ?_
  rintro e w1 ⟨lb, rfl, h⟩
  have HL := Lib.hid h
  clear h
  go_wp2_with fail
  refine (st_dnew HL.out most).mono ?_
  rintro e w2 ⟨db, rfl, h⟩
  have HL2 := Lib.hid h
  clear h HL
  go_wp2_with fail
  refine (twotabs_any HL2.out).mono ?_
  rintro e w3 ⟨rb, qb, rfl, h⟩
  have HL3 : Hid (Lies w w3 [logT lb (max 0 most) [], dlogT db (max 0 most) [], rowsT rb tabs0, refM qb tabs0]) := h
  clear h HL2
  go_wp2_with fail
  go_loopw [9] (fun vi wr => ∃ (i : Nat) (M : List MTab) (L : List (Int × Ent)), i ≤ la.length ∧ vi = .int .i64 i ∧ InvP i M L ∧ Lies w wr [logT lb (max 0 most) L, dlogT db (max 0 most) L, rowsT rb M, refM qb M]) (fun vi _ => la.length - (intOf vi).toNat)
  case atStart => exact ⟨0, tabs0, [], by omega, rfl, ⟨ok_tabs0, by simp, fun p hp => by cases hp⟩, HL3.out⟩
  case round =>
    clear HL3
    obtain ⟨i, M, L, hi, rfl, hinv, h⟩ := hrel
    have HI := Lib.hid hinv
    have HL := Lib.hid h
    obtain ⟨wo, rfl⟩ : ∃ wo : World, wo = wr := ⟨_, rfl⟩
    clear hinv h
    by_cases hlt : i < la.length
    · obtain ⟨tb, toff, tcap2, htv, htc⟩ := (HA.out.fr0 HL.out.fr).form (by omega)
      simp only [Value.slice.injEq, true_and] at htv
      obtain ⟨rfl, rfl⟩ := htv
      have hgt := List.getElem?_eq_getElem hlt
      generalize la[i] = t at hgt
      obtain ⟨p0, p1, p2, p3, p4⟩ := ucall_cells htc hgt
      have hii : (i : Int) < (la.length : Int) := by omega
      have HX := Lib.hid hgt
      have HTW : Hid ((Lit.int .i64 t.who).wf = true) := t.okw
      clear htc hgt
      go_wp2_with fail
      refine (udoes_any t HL.out HI.out (by omega)).mono ?_
      rintro e w4 ⟨rfl, M', L', hinv', h⟩
      have HI4 := Lib.hid hinv'
      have HL4 := Lib.hid h
      obtain ⟨tb2, toff2, tcap3, htv, htc⟩ := (HA.out.fr0 HL4.out.fr).form (by omega)
      simp only [Value.slice.injEq, Option.some.injEq, Addr.mk.injEq, true_and, and_true] at htv
      obtain ⟨⟨rfl, rfl⟩, rfl⟩ := htv
      have r1 := (ucall_cells htc HX.out).2.1
      clear hinv' h p0 p1 p2 p3 p4 htc
      go_wp2_with fail
      refine (st_tells HL4.out 0 1 2 3 rfl rfl rfl rfl t.who HI4.out.ok.good HI4.out.ok.few (by have := HI4.out.len; omega) HTW.out HI4.out.wf).mono ?_
      rintro e w5 ⟨rfl, h⟩
      have HL5 := Lib.hid h
      clear h HL4 r1
      go_wp2_with fail
      go_roundw
      case rel => exact ⟨i + 1, M', L', by omega, by go_num, HI4.out, HL5.out⟩
      case measure => simp [intOf]; omega
    · obtain rfl : i = la.length := by omega
      go_wp2_with fail
      refine (works_any _).mono ?_
      rintro e w8 ⟨rfl, hf⟩
      have HF := Lib.hid (HL.out.fr.trans0 hf)
      clear hf
      go_wp2_with fail
      go_ret
      exact ⟨rfl, HF.out⟩
theorem uplays_any (ha : UCallsAt w va la) :
    Calls Try.prog 5 #[.int .i64 most, va] w fun e w' => e = .returned (.bool true) ∧ Fr w w' Nil := by
  by_cases h1 : la.length ≤ 60
  · exact uplays_main most va la w ha h1
  · exact uplays_early most va la w ha (by omega)
end
end Go.Proofs.Ytjpenaodkfljhaa
