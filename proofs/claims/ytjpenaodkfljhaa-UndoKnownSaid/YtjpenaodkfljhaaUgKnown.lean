/-
  The walk of UndoKnown: it answers true.
  No condition.
-/
import Derived.Test.YtjpenaodkfljhaaUgNil
import Derived.Test.YtjpenaodkfljhaaUgPlays
import Derived.Test.YtjpenaodkfljhaaUdApartLaw
import Derived.Test.YtjpenaodkfljhaaUdBackLaw
namespace Go.Proofs.Ytjpenaodkfljhaa
open Go Go.RowKit

theorem uvals_take (l : List UCall) (k : Nat) : (l.flatMap UCall.vals).take (k * 5) = (l.take k).flatMap UCall.vals := by
  induction l generalizing k with
  | nil => simp
  | cons r g ih =>
    cases k with
    | zero => simp
    | succ k =>
      rw [List.take_succ_cons]
      show (r.vals ++ g.flatMap UCall.vals).take ((k + 1) * 5) = r.vals ++ (g.take k).flatMap UCall.vals
      rw [List.take_append, List.take_of_length_le (by simp; omega), ← ih]
      congr 2
      simp; omega
theorem uvals_drop (l : List UCall) (k : Nat) : (l.flatMap UCall.vals).drop (k * 5) = (l.drop k).flatMap UCall.vals := by
  induction l generalizing k with
  | nil => simp
  | cons r g ih =>
    cases k with
    | zero => simp
    | succ k =>
      rw [List.drop_succ_cons]
      show (r.vals ++ g.flatMap UCall.vals).drop ((k + 1) * 5) = (g.drop k).flatMap UCall.vals
      rw [List.drop_append, List.drop_eq_nil_of_le (by simp; omega), List.nil_append, ← ih]
      congr 1
      simp; omega
def exCalls : List UCall := [⟨0, 1, 0, 5, 7, by decide, by decide, by decide⟩, ⟨1, 2, 0, 5, 8, by decide, by decide, by decide⟩, ⟨2, 1, 1, 5, 9, by decide, by decide, by decide⟩, ⟨4, 2, 1, 5, 0, by decide, by decide, by decide⟩, ⟨7, 1, 1, 6, 0, by decide, by decide, by decide⟩, ⟨5, 1, 0, 0, 0, by decide, by decide, by decide⟩,
  ⟨4, 1, 1, 7, 0, by decide, by decide, by decide⟩, ⟨0, 3, 2, 1, 1, by decide, by decide, by decide⟩, ⟨5, 2, 0, 0, 0, by decide, by decide, by decide⟩, ⟨6, 2, 0, 0, 0, by decide, by decide, by decide⟩, ⟨3, 2, 0, 5, 1, by decide, by decide, by decide⟩, ⟨5, 1, 0, 0, 0, by decide, by decide, by decide⟩,
  ⟨5, 2, 0, 0, 0, by decide, by decide, by decide⟩, ⟨5, 1, 0, 0, 0, by decide, by decide, by decide⟩, ⟨6, 1, 0, 0, 0, by decide, by decide, by decide⟩, ⟨5, 1, 0, 0, 0, by decide, by decide, by decide⟩]
theorem ex_len : exCalls.length = 16 := rfl
theorem ex_at {w : World} {b : Nat} {e : TypeId} (h : Bk w b e (exCalls.flatMap UCall.vals)) : UCallsAt w (.slice (some ⟨b, 0, none⟩) 16 16) exCalls :=
  ⟨⟨rfl, .inr ⟨_, 16, rfl, fun j u hu => by rw [Addr.add_lit, Nat.zero_add, h.cell j]; exact hu⟩⟩, (fun a n c e => by cases e; exact Nat.le_refl _), by decide⟩
theorem ex_take {w : World} {b i : Nat} (h : UCallsAt w (.slice (some ⟨b, 0, none⟩) 16 16) exCalls) (hi : i ≤ 16) : UCallsAt w (.slice (some ⟨b, 0, none⟩) i 16) (exCalls.take i) := by
  have h1 := SlAt.take (k := i) (c' := 16) h.1 hi (fun e => by cases e)
  rw [uvals_take] at h1
  have hl : (exCalls.take i).length = i := by rw [List.length_take, ex_len]; omega
  exact ⟨h1.cast hl.symm rfl, (fun a n c e => by cases e; exact hi), by omega⟩
theorem ex_drop {w : World} {b i : Nat} (h : UCallsAt w (.slice (some ⟨b, 0, none⟩) 16 16) exCalls) (hi : i < 16) : UCallsAt w (.slice (some ⟨b, i * 5, none⟩) (16 - i) (16 - i)) (exCalls.drop i) := by
  have h1 := SlAt.drop (k := i) h.1 (show i ≤ 16 by omega) (by decide)
  rw [if_neg (by omega), uvals_drop] at h1
  simp only [Option.map_some, Addr.add_lit, Nat.zero_add] at h1
  have hl : (exCalls.drop i).length = 16 - i := by rw [List.length_drop, ex_len]
  exact ⟨h1.cast hl.symm rfl, (fun a n c e => by cases e; exact Nat.le_refl _), by omega⟩
theorem ex_new (w : World) : UCallsAt (w.alloc (.cells #[.int .u8 0, .int .i64 1, .int .i64 0, .int .i64 5, .int .i64 7, .int .u8 1, .int .i64 2, .int .i64 0, .int .i64 5, .int .i64 8, .int .u8 2, .int .i64 1, .int .i64 1, .int .i64 5, .int .i64 9, .int .u8 4, .int .i64 2, .int .i64 1, .int .i64 5, .int .i64 0, .int .u8 7, .int .i64 1, .int .i64 1, .int .i64 6, .int .i64 0, .int .u8 5, .int .i64 1, .int .i64 0, .int .i64 0, .int .i64 0, .int .u8 4, .int .i64 1, .int .i64 1, .int .i64 7, .int .i64 0, .int .u8 0, .int .i64 3, .int .i64 2, .int .i64 1, .int .i64 1, .int .u8 5, .int .i64 2, .int .i64 0, .int .i64 0, .int .i64 0, .int .u8 6, .int .i64 2, .int .i64 0, .int .i64 0, .int .i64 0, .int .u8 3, .int .i64 2, .int .i64 0, .int .i64 5, .int .i64 1, .int .u8 5, .int .i64 1, .int .i64 0, .int .i64 0, .int .i64 0, .int .u8 5, .int .i64 2, .int .i64 0, .int .i64 0, .int .i64 0, .int .u8 5, .int .i64 1, .int .i64 0, .int .i64 0, .int .i64 0, .int .u8 6, .int .i64 1, .int .i64 0, .int .i64 0, .int .i64 0, .int .u8 5, .int .i64 1, .int .i64 0, .int .i64 0, .int .i64 0] 64)) (.slice (some ⟨w.heap.size, 0, none⟩) 16 16) exCalls := ex_at (Bk.new w 64 #[.int .u8 0, .int .i64 1, .int .i64 0, .int .i64 5, .int .i64 7, .int .u8 1, .int .i64 2, .int .i64 0, .int .i64 5, .int .i64 8, .int .u8 2, .int .i64 1, .int .i64 1, .int .i64 5, .int .i64 9, .int .u8 4, .int .i64 2, .int .i64 1, .int .i64 5, .int .i64 0, .int .u8 7, .int .i64 1, .int .i64 1, .int .i64 6, .int .i64 0, .int .u8 5, .int .i64 1, .int .i64 0, .int .i64 0, .int .i64 0, .int .u8 4, .int .i64 1, .int .i64 1, .int .i64 7, .int .i64 0, .int .u8 0, .int .i64 3, .int .i64 2, .int .i64 1, .int .i64 1, .int .u8 5, .int .i64 2, .int .i64 0, .int .i64 0, .int .i64 0, .int .u8 6, .int .i64 2, .int .i64 0, .int .i64 0, .int .i64 0, .int .u8 3, .int .i64 2, .int .i64 0, .int .i64 5, .int .i64 1, .int .u8 5, .int .i64 1, .int .i64 0, .int .i64 0, .int .i64 0, .int .u8 5, .int .i64 2, .int .i64 0, .int .i64 0, .int .i64 0, .int .u8 5, .int .i64 1, .int .i64 0, .int .i64 0, .int .i64 0, .int .u8 6, .int .i64 1, .int .i64 0, .int .i64 0, .int .i64 0, .int .u8 5, .int .i64 1, .int .i64 0, .int .i64 0, .int .i64 0])
attribute [local irreducible] exCalls
def knL : List (Int × Ent) := noteL tabs0 1 [] 1 0 0
theorem kn1 : noteE tabs0 1 [] 2 = 2 ∧ noteE tabs0 1 [] (-1) = 2 ∧ noteE tabs0 1 [] 0 = 0 ∧ noteE tabs0 1 knL 0 = 3 := by decide +kernel
theorem kn2 : noteL tabs0 1 [] 1 2 0 = [] ∧ noteL tabs0 1 [] 1 (-1) 0 = [] ∧ noteL tabs0 1 knL 2 0 0 = knL ∧ (ofL knL 1).length = 1 := by decide +kernel
set_option maxRecDepth 100000 in
set_option maxHeartbeats 4000000 in
theorem uknown_any (w : World) : Calls Try.prog 9 #[] w fun e w' => e = .returned (.bool true) ∧ Fr w w' Nil := by
  go_enter Try.func9, Try.ntmps9
  go_wp2_with fail
  refine (twotabs_any (Lies.nil (Fr.refl w Nil))).mono ?_
  rintro e w1 ⟨rb, qb, rfl, h⟩
  have HL := Lib.hid h
  clear h
  go_wp2_with fail
  refine (nil_forget w1 1).mono ?_
  rintro e w2 ⟨rfl, rfl⟩
  go_wp2_with fail
  refine (st_new HL.out 1).mono ?_
  rintro e w2 ⟨lb, rfl, h⟩
  have HL2 : Hid (Lies w w2 [rowsT rb tabs0, refT qb [2, 1] [], logT lb 1 []]) := h
  clear h HL
  go_wp2_with fail
  refine (nil_note w2 1 0 0 (rptr rb)).mono ?_
  rintro e w3 ⟨rfl, rfl⟩
  go_wp2_with fail
  refine (nil_note2 w2 lb 1 0 0).mono ?_
  rintro e w3 ⟨rfl, rfl⟩
  go_wp2_with fail
  refine (nil_back w2 1 (rptr rb)).mono ?_
  rintro e w3 ⟨rfl, rfl⟩
  go_wp2_with fail
  refine (st_back HL2.out 2 0 rfl rfl (by decide) 1 ok_tabs0.good (by decide) (by simp)).mono ?_
  rintro e w3 ⟨he, h⟩
  rw [show (!(ofL [] 1 : List Ent).isEmpty) = false from rfl] at he
  subst he
  have HL3 : Hid (Lies w w3 [rowsT rb tabs0, refT qb [2, 1] [], logT lb 1 []]) := h
  clear h HL2
  go_wp2_with fail
  refine (nil_len w3 1).mono ?_
  rintro e w4 ⟨rfl, rfl⟩
  go_wp2_with fail
  refine (nil_used w3).mono ?_
  rintro e w4 ⟨rfl, rfl⟩
  go_wp2_with fail
  refine (nil_touched w3 1).mono ?_
  rintro e w4 ⟨rfl, rfl⟩
  go_wp2_with fail
  refine (nil_clean w3 (rptr rb)).mono ?_
  rintro e w4 ⟨rfl, rfl⟩
  go_wp2_with fail
  refine (nil_clean2 w3 lb).mono ?_
  rintro e w4 ⟨rfl, hf⟩
  have HL4 := Lib.hid (HL3.out.fr0 hf)
  clear hf HL3
  go_wp2_with fail
  refine (st_note HL4.out 2 0 rfl rfl 1 2 0 ok_tabs0.good (by decide) (by decide)).mono ?_
  rintro e w5 ⟨he, h⟩
  rw [kn1.1] at he
  rw [kn2.1] at h
  subst he
  have HL5 : Hid (Lies w w5 [rowsT rb tabs0, refT qb [2, 1] [], logT lb 1 []]) := h
  clear h HL4
  go_wp2_with fail
  refine (st_note HL5.out 2 0 rfl rfl 1 (-1) 0 ok_tabs0.good (by decide) (by decide)).mono ?_
  rintro e w6 ⟨he, h⟩
  rw [kn1.2.1] at he
  rw [kn2.2.1] at h
  subst he
  have HL6 : Hid (Lies w w6 [rowsT rb tabs0, refT qb [2, 1] [], logT lb 1 []]) := h
  clear h HL5
  go_wp2_with fail
  refine (st_note HL6.out 2 0 rfl rfl 1 0 0 ok_tabs0.good (by decide) (by decide)).mono ?_
  rintro e w7 ⟨he, h⟩
  rw [kn1.2.2.1] at he
  subst he
  have HL7 : Hid (Lies w w7 [rowsT rb tabs0, refT qb [2, 1] [], logT lb 1 knL]) := h
  clear h HL6
  go_wp2_with fail
  refine (st_note HL7.out 2 0 rfl rfl 2 0 0 ok_tabs0.good (by decide) (by decide +kernel)).mono ?_
  rintro e w8 ⟨he, h⟩
  rw [kn1.2.2.2] at he
  rw [kn2.2.2.1] at h
  subst he
  have HL8 : Hid (Lies w w8 [rowsT rb tabs0, refT qb [2, 1] [], logT lb 1 knL]) := h
  clear h HL7
  go_wp2_with fail
  obtain ⟨S8, hl8, _⟩ := HL8.out.get 2 _ rfl
  refine (nil_back2 w8 1 hl8 (by decide)).mono ?_
  rintro e w9 ⟨rfl, rfl⟩
  go_wp2_with fail
  refine (st_ulen HL8.out 2 rfl 1 (by decide)).mono ?_
  rintro e w9 ⟨he, h⟩
  rw [kn2.2.2.2] at he
  subst he
  have HF9 := Lib.hid h.fr
  clear h HL8 hl8
  go_wp2_with fail
  go_loopw [7] (fun vi wr => ∃ k : Int, -1 ≤ k ∧ k ≤ 9 ∧ vi = .int .i64 k ∧ UCallsAt wr (.slice (some ⟨w9.heap.size, 0, none⟩) 16 16) exCalls ∧ Fr w wr Nil) (fun vi _ => (9 - intOf vi).toNat)
  case atStart => exact ⟨-1, by omega, by omega, rfl, ex_new w9, HF9.out.alloc _⟩
  case round =>
    clear HF9
    obtain ⟨k, hk0, hk1, rfl, hc, hf⟩ := hrel
    have HC := Lib.hid hc
    have HF := Lib.hid hf
    clear hc hf
    by_cases hlt : k < 9
    · go_wp2_with fail
      refine (uplays_any k _ exCalls _ HC.out).mono ?_
      rintro e w10 ⟨rfl, hf⟩
      have HC2 := Lib.hid (HC.out.fr0 hf)
      have HF2 := Lib.hid (HF.out.trans0 hf)
      clear hf HC HF
      go_wp2_with fail
      go_roundw
      case rel => exact ⟨k + 1, by omega, by omega, by go_num, HC2.out, HF2.out⟩
      case measure => simp [intOf]; omega
    · go_wp2_with fail
      go_loopw [8] (fun vi wr => ∃ i : Nat, i ≤ 16 ∧ vi = .int .i64 i ∧ UCallsAt wr (.slice (some ⟨w9.heap.size, 0, none⟩) 16 16) exCalls ∧ Fr w wr Nil) (fun vi _ => 16 - (intOf vi).toNat)
      case atStart => exact ⟨0, by omega, rfl, HC.out, HF.out⟩
      case round =>
        clear HC HF
        obtain ⟨i, hi, rfl, hc, hf⟩ := hrel
        have HC := Lib.hid hc
        have HF := Lib.hid hf
        clear hc hf
        by_cases hil : i < 16
        · have hii : (i : Int) < 16 := by omega
          have hne : ¬ 16 = i := by omega
          go_wp2_with fail
          refine (backlaw_any _ _ (exCalls.take i) exCalls _ (ex_take HC.out (by omega)) HC.out).mono ?_
          rintro e w10 ⟨rfl, hf⟩
          have HC2 := Lib.hid (HC.out.fr0 hf)
          have HF2 := Lib.hid (HF.out.trans0 hf)
          clear hf HC HF
          go_wp2_with fail
          refine (backlaw_any _ _ exCalls (exCalls.drop i) _ HC2.out (ex_drop HC2.out hil)).mono ?_
          rintro e w11 ⟨rfl, hf⟩
          have HC3 := Lib.hid (HC2.out.fr0 hf)
          have HF3 := Lib.hid (HF2.out.trans0 hf)
          clear hf HC2 HF2
          go_wp2_with fail
          refine (apartlaw_any _ (exCalls.drop i) _ (ex_drop HC3.out hil)).mono ?_
          rintro e w12 ⟨rfl, hf⟩
          have HC4 := Lib.hid (HC3.out.fr0 hf)
          have HF4 := Lib.hid (HF3.out.trans0 hf)
          clear hf HC3 HF3
          go_wp2_with fail
          go_roundw
          case rel => exact ⟨i + 1, by omega, by go_num, HC4.out, HF4.out⟩
          case measure => simp [intOf]; omega
        · obtain rfl : i = 16 := by omega
          go_wp2_with fail
          refine (works_any _).mono ?_
          rintro e w8 ⟨rfl, hf⟩
          have HF2 := Lib.hid (HF.out.trans0 hf)
          clear hf
          go_wp2_with fail
          go_ret
          exact ⟨rfl, HF2.out⟩
end Go.Proofs.Ytjpenaodkfljhaa
