/-
  Walks of tables, cols, works.
  What is kept while one changes rows, and takes back.
-/
import Derived.Test.YtjpenaodkfljhaaUdState
import Derived.Test.YtjpenaodkfljhaaUdArgs
namespace Go.Proofs.Ytjpenaodkfljhaa
open Go Go.RowKit

def refT (qb : Nat) (N : List Int) (L : List QR) : Thing where
  At w S := RefAt w qb N L S
  fr h hf hd := h.fr hf hd
  lt h := h.lt
def tabs0 : List MTab := newMod [2, 1]
theorem ok_tabs0 : Ok 0 tabs0 := by
  have h := good_new (cols := [2, 1]) ⟨by decide, by decide⟩
  exact ⟨h.1, rfl, h.2⟩
theorem colOk21 : colOk [2, 1] := ⟨by decide, by decide⟩
theorem colsOk21 : colsOk [2, 1] := ⟨by decide, by decide⟩
def TwoRet (w0 : World) (l : List Thing) (e : Ending) (W' : World) : Prop := ∃ rb qb, e = .returned (.tuple #[rptr rb, rptr qb]) ∧ Lies w0 W' (l ++ [rowsT rb tabs0] ++ [refT qb [2, 1] []])
set_option maxRecDepth 100000 in
set_option maxHeartbeats 1000000 in
theorem twotabs_any {w0 W : World} {l : List Thing} (h : Lies w0 W l) : Calls Try.prog 28 #[] W (TwoRet w0 l) := by
  have HL := Lib.hid h
  clear h
  go_enter Try.func28, Try.ntmps28
  go_wp2_with fail
  refine (api_new _ [2, 1] _ (intsAt_bk (Bk.new _ _ _) rfl) (by decide)).mono ?_
  rintro e w1 hr
  rcases hr with ⟨_, rb, S, rfl, hr, hS, hf⟩ | ⟨hno, _⟩
  rotate_left
  · exact absurd colsOk21 hno
  have HL1 := Lib.hid ((HL.out.fr0 ((Fr.refl _ Nil).alloc _)).add (rowsT rb tabs0) (S := S) hr hS hf)
  clear hr hf HL
  go_wp2_with fail
  refine (rnew_any _ [2, 1] _ (intsAt_bk (Bk.new _ _ _) rfl) (by decide)).mono ?_
  rintro e w2 hr
  rcases hr with ⟨_, qb, T, rfl, hr, hT, hf⟩ | ⟨hno, _⟩
  rotate_left
  · exact absurd colOk21 hno
  have HL2 := Lib.hid ((HL1.out.fr0 ((Fr.refl _ Nil).alloc _)).add (refT qb [2, 1] []) (S := T) hr hT hf)
  clear hr hf HL1
  go_wp2_with fail
  refine bodyPost_ret (by simp [results, Try.results28, go_sem]; try rfl) rfl ?_
  exact ⟨rb, qb, rfl, HL2.out⟩
def ColsRet (t n : Int) (w : World) (e : Ending) (w' : World) : Prop := ∃ v, e = .returned v ∧ IntsAt w' v (colsU t n) ∧ Fr w w' Nil
set_option maxRecDepth 100000 in
set_option maxHeartbeats 1000000 in
theorem cols_of (t n : Int) (w : World) : Calls Try.prog 31 #[.int .i64 t, .int .i64 n] w (ColsRet t n w) := by
  by_cases h0 : t = 0
  · subst h0
    have H := Lib.hid (intsAt_bk (n := 2) (cap := 2) (xs := [n, n]) (Bk.new w 2 #[.int .i64 n, .int .i64 n]) rfl)
    go_enter Try.func31, Try.ntmps31
    go_wp2_with fail
    go_ret
    exact ⟨_, rfl, H.out, (Fr.refl w Nil).alloc _⟩
  · have H := Lib.hid (intsAt_bk (n := 1) (cap := 1) (xs := [n]) (Bk.new w 2 #[.int .i64 n]) rfl)
    have H0 := Lib.hid h0
    go_enter Try.func31, Try.ntmps31
    go_wp2_with fail
    go_ret
    refine ⟨_, rfl, ?_, (Fr.refl w Nil).alloc _⟩
    unfold colsU
    rw [if_neg H0.out]
    exact H.out
def exM1 : List MTab := (mput tabs0 1 5 [7]).1
def exM2 : List MTab := (mput exM1 1 5 [8]).1
def exM3 : List MTab := (mput exM2 1 6 [9]).1
def exL1 : List (Int × Ent) := noteL exM1 9 [] 1 1 5
def exL2 : List (Int × Ent) := noteL exM2 9 exL1 1 1 6
theorem ok_ex1 : Ok 1 exM1 := ok_tabs0.put (by decide) _ _ _
theorem ok_ex2 : Ok 2 exM2 := ok_ex1.put (by decide) _ _ _
theorem ok_ex3 : Ok 3 exM3 := ok_ex2.put (by decide) _ _ _
def exM4 : List MTab := backM exM3 exL2 1
def exL3 : List (Int × Ent) := backL exL2 1
def exM5 : List MTab := backM exM4 exL3 1
def exL4 : List (Int × Ent) := backL exL3 1
theorem ok_back {N : Nat} {M : List MTab} (h : Ok N M) (hN : N < 1000000) (L : List (Int × Ent)) (who : Int) : Ok (N + 1) (backM M L who) := by
  unfold backM
  split
  · exact h.undo hN _
  · exact h.mono (Nat.le_succ _)
theorem ok_ex4 : Ok 4 exM4 := ok_back ok_ex3 (by decide) _ _
theorem ok_ex5 : Ok 5 exM5 := ok_back ok_ex4 (by decide) _ _
theorem exa : noteE exM1 9 [] 1 = 0 ∧ noteE exM2 9 exL1 1 = 0 := by decide +kernel
theorem exb : (ofL exL2 1).length = 2 ∧ exL2.length = 2 := by decide +kernel
theorem exc : msum (mtab (cleanM exM3 exL2) 1) 0 = 7 := by
  rw [clean_one (by decide +kernel)]
  decide +kernel
theorem exd : (!(ofL exL2 1).isEmpty) = true ∧ (!(ofL exL3 1).isEmpty) = true ∧ (!(ofL exL4 1).isEmpty) = false := by decide +kernel
theorem exe : (mtab exM4 1).2.length = 1 ∧ msum (mtab (backM exM5 exL4 1) 1) 0 = 7 := by decide +kernel
set_option maxRecDepth 100000 in
set_option maxHeartbeats 2000000 in
theorem works_any (w : World) : Calls Try.prog 26 #[] w fun e w' => e = .returned (.bool true) ∧ Fr w w' Nil := by
  go_enter Try.func26, Try.ntmps26
  go_wp2_with fail
  refine (twotabs_any (Lies.nil (Fr.refl w Nil))).mono ?_
  rintro e w1 ⟨rb, qb, rfl, h⟩
  have HL := Lib.hid h
  clear h
  go_wp2_with fail
  refine (st_new HL.out 9).mono ?_
  rintro e w2 ⟨lb, rfl, h⟩
  have HL2 := Lib.hid h
  clear h HL
  go_wp2_with fail
  refine (st_put (HL2.out.fr0 ((Fr.refl _ Nil).alloc _)) 0 rfl 1 5 _ [7] ok_tabs0.good (intsAt_bk (Bk.new _ _ _) rfl) (by decide)).mono ?_
  rintro e w3 ⟨rfl, h⟩
  have HL3 : Hid (Lies w w3 [rowsT rb exM1, refT qb [2, 1] [], logT lb 9 []]) := h
  clear h HL2
  go_wp2_with fail
  refine (st_note HL3.out 2 0 rfl rfl 1 1 5 ok_ex1.good (by decide) (by decide)).mono ?_
  rintro e w4 ⟨he, h⟩
  rw [exa.1] at he
  subst he
  have HL4 : Hid (Lies w w4 [rowsT rb exM1, refT qb [2, 1] [], logT lb 9 exL1]) := h
  clear h HL3
  go_wp2_with fail
  refine (st_put (HL4.out.fr0 ((Fr.refl _ Nil).alloc _)) 0 rfl 1 5 _ [8] ok_ex1.good (intsAt_bk (Bk.new _ _ _) rfl) (by decide)).mono ?_
  rintro e w5 ⟨rfl, h⟩
  have HL5 : Hid (Lies w w5 [rowsT rb exM2, refT qb [2, 1] [], logT lb 9 exL1]) := h
  clear h HL4
  go_wp2_with fail
  refine (st_note HL5.out 2 0 rfl rfl 1 1 6 ok_ex2.good (by decide) (by decide +kernel)).mono ?_
  rintro e w6 ⟨he, h⟩
  rw [exa.2] at he
  subst he
  have HL6 : Hid (Lies w w6 [rowsT rb exM2, refT qb [2, 1] [], logT lb 9 exL2]) := h
  clear h HL5
  go_wp2_with fail
  refine (st_put (HL6.out.fr0 ((Fr.refl _ Nil).alloc _)) 0 rfl 1 6 _ [9] ok_ex2.good (intsAt_bk (Bk.new _ _ _) rfl) (by decide)).mono ?_
  rintro e w7 ⟨rfl, h⟩
  have HL7 : Hid (Lies w w7 [rowsT rb exM3, refT qb [2, 1] [], logT lb 9 exL2]) := h
  clear h HL6
  go_wp2_with fail
  refine (st_ulen HL7.out 2 rfl 1 (by decide)).mono ?_
  rintro e w8 ⟨he, h⟩
  rw [exb.1] at he
  subst he
  have HL8 := Lib.hid h
  clear h HL7
  go_wp2_with fail
  refine (st_used HL8.out 2 rfl).mono ?_
  rintro e w9 ⟨he, h⟩
  rw [exb.2] at he
  subst he
  have HL9 := Lib.hid h
  clear h HL8
  go_wp2_with fail
  refine (st_clean (N := 3) HL9.out 2 0 rfl rfl ok_ex3.good ok_ex3.few (by decide +kernel) (by decide +kernel)).mono ?_
  rintro e w10 ⟨cb, rfl, h⟩
  have HL10 := Lib.hid h
  clear h HL9
  go_wp2_with fail
  refine (st_sum HL10.out 3 rfl 1 0 (Ok.undos _ ok_ex3 (by decide +kernel)).good).mono ?_
  rintro e w11 ⟨he, h⟩
  rw [exc] at he
  subst he
  have HL11 := Lib.hid h
  clear h HL10
  go_wp2_with fail
  refine (st_back HL11.out 2 0 rfl rfl (by decide) 1 ok_ex3.good (by decide) (by decide +kernel)).mono ?_
  rintro e w12 ⟨he, h⟩
  rw [exd.1] at he
  subst he
  have HL12 : Hid (Lies w w12 [rowsT rb exM4, refT qb [2, 1] [], logT lb 9 exL3, rowsT cb (cleanM exM3 exL2)]) := h
  clear h HL11
  go_wp2_with fail
  refine (st_len HL12.out 0 rfl 1 ok_ex4.good).mono ?_
  rintro e w13 ⟨he, h⟩
  rw [exe.1] at he
  subst he
  have HL13 := Lib.hid h
  clear h HL12
  go_wp2_with fail
  refine (st_back HL13.out 2 0 rfl rfl (by decide) 1 ok_ex4.good (by decide) (by decide +kernel)).mono ?_
  rintro e w14 ⟨he, h⟩
  rw [exd.2.1] at he
  subst he
  have HL14 : Hid (Lies w w14 [rowsT rb exM5, refT qb [2, 1] [], logT lb 9 exL4, rowsT cb (cleanM exM3 exL2)]) := h
  clear h HL13
  go_wp2_with fail
  refine (st_back HL14.out 2 0 rfl rfl (by decide) 1 ok_ex5.good (by decide) (by decide +kernel)).mono ?_
  rintro e w15 ⟨he, h⟩
  rw [exd.2.2] at he
  subst he
  have HL15 := Lib.hid h
  clear h HL14
  go_wp2_with fail
  refine (st_sum HL15.out 0 rfl 1 0 (ok_back ok_ex5 (by decide) _ _).good).mono ?_
  rintro e w16 ⟨he, h⟩
  rw [exe.2] at he
  subst he
  have HL16 := Lib.hid h
  clear h HL15
  go_wp2_with fail
  go_ret
  exact ⟨rfl, HL16.out.fr⟩
end Go.Proofs.Ytjpenaodkfljhaa
namespace Go.Proofs.Ytjpenaodkfljhaa
open Go Go.RowKit

structure InvB (N : Nat) (M0 M : List MTab) (L : List (Int × Ent)) : Prop where
  ok : Ok N M
  one : ∀ p ∈ L, p.1 = 1
  chain : (ofL L 1).reverse.foldl undoE M = M0
theorem InvB.start {N : Nat} {M : List MTab} (h : Ok N M) : InvB N M M [] := ⟨h, (fun p hp => by cases hp), rfl⟩
theorem InvB.clean {N : Nat} {M0 M : List MTab} {L : List (Int × Ent)} (h : InvB N M0 M L) : cleanM M L = M0 := (clean_one h.one M).trans h.chain
theorem InvB.wf {N : Nat} {M0 M : List MTab} {L : List (Int × Ent)} (h : InvB N M0 M L) : ∀ p ∈ L, (Lit.int .i64 p.1).wf = true := fun p hp => by rw [h.one p hp]; decide
theorem InvB.ofs {N : Nat} {M0 M : List MTab} {L : List (Int × Ent)} (h : InvB N M0 M L) : ofL L 1 = L.map Prod.snd := by
  unfold ofL
  rw [List.filter_eq_self.2 fun p hp => by rw [h.one p hp]; rfl]
theorem InvB.len {N : Nat} {M0 M : List MTab} {L : List (Int × Ent)} (h : InvB N M0 M L) : (ofL L 1).length = L.length := by rw [h.ofs, List.length_map]
theorem InvB.note {N : Nat} {M0 M : List MTab} {L : List (Int × Ent)} (h : InvB N M0 M L) (hN : N < 1000) (b : Bool) {t : Int} (ht : wid t ≠ 0) (k n : Int) : InvB (N + 1) M0 (chg M b t k n) (L ++ [(1, entOf M t k)]) := by
  refine ⟨h.ok.chg (by omega) b t k n, fun p hp => ?_, ?_⟩
  · rcases List.mem_append.1 hp with hp | hp
    · exact h.one p hp
    · rw [List.mem_singleton.1 hp]
  · rw [ofL_snoc, if_pos rfl, List.reverse_append, List.foldl_append]
    show (ofL L 1).reverse.foldl undoE (undoE (chg M b t k n) (entOf M t k)) = M0
    rw [undo_chg h.ok (by omega) b ht k n]
    exact h.chain
theorem InvB.back {N : Nat} {M0 M : List MTab} {L : List (Int × Ent)} (h : InvB N M0 M L) (hN : N < 1000) (hn : 0 < L.length) : InvB (N + 1) M0 (backM M L 1) (backL L 1) ∧ (backL L 1).length + 1 = L.length ∧ (ofL L 1).isEmpty = false := by
  have hne : ofL L 1 ≠ [] := fun e => by have := h.len; rw [e] at this; simp at this; omega
  obtain ⟨ds, x, hx⟩ := snoc_of hne
  obtain ⟨h1, h2⟩ := back_some hx
  refine ⟨⟨ok_back h.ok (by omega) L 1, fun p hp => ?_, ?_⟩, h2, by rw [hx]; cases ds <;> rfl⟩
  · unfold backL at hp
    split at hp
    · exact h.one p hp
    · exact h.one p (List.mem_of_mem_eraseIdx hp)
  · rw [h1, if_pos rfl]
    unfold backM
    rw [hx, List.getLast?_concat]
    have := h.chain
    rw [hx, List.reverse_append, List.foldl_append] at this
    exact this
theorem InvB.done {N : Nat} {M0 M : List MTab} {L : List (Int × Ent)} (h : InvB N M0 M L) (hn : L.length = 0) : L = [] ∧ M = M0 := by
  have : L = [] := by cases L with
    | nil => rfl
    | cons p L => simp at hn
  subst this
  exact ⟨rfl, h.chain⟩
theorem forget_all {L : List (Int × Ent)} (h : ∀ p ∈ L, p.1 = 1) : forgetL L 1 = [] := by
  unfold forgetL
  exact List.filter_eq_nil_iff.2 fun p hp => by rw [h p hp]; decide
/-- What Note answers, and leaves, where there is room. -/
theorem note_room {N : Nat} {M : List MTab} {L : List (Int × Ent)} (h : Ok N M) (hl : L.length < 100) (who t k : Int) : (wid t = 0 ∧ noteE M 100 L t = 2 ∧ noteL M 100 L who t k = L) ∨ (wid t ≠ 0 ∧ noteE M 100 L t = 0 ∧ noteL M 100 L who t k = L ++ [(who, entOf M t k)]) := by
  have hw := wid_of h.cols t
  unfold noteL noteE
  rw [hw]
  by_cases h0 : wid t = 0
  · rw [if_pos h0]
    exact .inl ⟨h0, rfl, if_neg (by decide)⟩
  · rw [if_neg h0, if_neg (by omega)]
    exact .inr ⟨h0, rfl, if_pos rfl⟩
end Go.Proofs.Ytjpenaodkfljhaa
