/-
  Whom one waits for: somebody, never itself, each holds the spot or stands ahead. Plain.
  No condition.
-/
import Derived.Test.YtokeciekncincabGreatPkC40
import Derived.Test.YtokeciekncincabGreatPkC42
import Derived.Test.YtokeciekncincabGreatPkC20
namespace Go.Proofs.YtokeciekncincabGreat
open Go

theorem mem_tw {α : Type} {p : α → Bool} {x : α} : ∀ {l : List α}, x ∈ l.takeWhile p → p x = true
  | [], h => by cases h
  | y :: l, h => by
    rw [List.takeWhile_cons] at h
    split at h
    · rename_i hy
      rcases List.mem_cons.1 h with rfl | h
      · exact hy
      · exact mem_tw h
    · cases h
theorem tillL_ne {l : List (Int × Int)} {who y : Int} (h : y ∈ tillL l who) : y ≠ who := by
  unfold tillL at h
  obtain ⟨p, hp, rfl⟩ := List.mem_map.1 h
  have h1 := mem_tw hp
  simpa using h1
/-- Holds it, or stands ahead. -/
def thereB (D : LkS) (s : Spot) (who y : Int) : Bool := heldL D.H y s != 0 || (tillL (prs (queueL D.H D.W s)) who).contains y
theorem for_none {D : LkS} {who : Int} (h : wishL D.W who = none) : forL D who = [] := by unfold forL; rw [h]
theorem for_there {D : LkS} (h : LInv D) {who : Int} {e : LkE} (hw : wishL D.W who = some e) {y : Int} (hy : y ∈ forL D who) : y ≠ who ∧ thereB D e.s who y = true := by
  rw [← rfor_eq h who] at hy
  unfold rforL at hy
  rw [hw] at hy
  have h2 := ((addsN_is (tillL (prs (queueL D.H D.W e.s)) who) _ (rbar_inc D.H e.s who e.m)).2 y).1 hy
  unfold thereB
  rw [Bool.or_eq_true, bne_iff_ne]
  rcases h2 with h2 | h2
  · unfold rbar at h2
    rw [(addsN_is _ _ inc_nil).2] at h2
    simp only [List.not_mem_nil, false_or, List.mem_map, List.mem_filter] at h2
    obtain ⟨x, ⟨hx, hp⟩, rfl⟩ := h2
    unfold barP at hp
    rw [Bool.and_eq_true, Bool.and_eq_true, beq_iff_eq, bne_iff_ne] at hp
    refine ⟨hp.1.2, .inl ?_⟩
    rw [← hp.1.1, heldL_mem h.hn hx]
    exact (h.hm x hx).2
  · exact ⟨tillL_ne h2, .inr (by rw [List.contains_iff_mem]; exact h2)⟩
theorem for_some {D : LkS} (h : BInv D) {who : Int} {e : LkE} (hw : wishL D.W who = some e) : forL D who ≠ [] := by
  rw [← rfor_eq h.inv who]
  unfold rforL
  rw [hw]
  obtain ⟨hin, hwho⟩ := wish_some hw
  have h2 := (addsN_is (tillL (prs (queueL D.H D.W e.s)) who) _ (rbar_inc D.H e.s who e.m)).2
  show addsN (rbar D.H e.s who e.m) (tillL (prs (queueL D.H D.W e.s)) who) ≠ []
  have key : ∃ y, y ∈ rbar D.H e.s who e.m ∨ y ∈ tillL (prs (queueL D.H D.W e.s)) who := by
    have hq : e ∈ queueL D.H D.W e.s := by
      unfold queueL upL restL
      rw [List.mem_append, List.mem_filter, List.mem_filter]
      by_cases h0 : heldL D.H e.who e.s = 0
      · exact .inr ⟨hin, by simp [h0]⟩
      · exact .inl ⟨hin, by simp [h0]⟩
    cases hqq : queueL D.H D.W e.s with
    | nil => rw [hqq] at hq; cases hq
    | cons x r =>
      by_cases hx : x.who = who
      · have hxe : x = e := by
          have hxm := queueL_of D.H D.W e.s x (by rw [hqq]; exact List.mem_cons_self)
          have hn := h.inv.wn
          have h5 := wish_of hn hxm.1
          rw [hx, hw] at h5
          exact (Option.some.inj h5).symm
        have hc := h.blk e.s x r hqq
        obtain ⟨f, hf, hfs, hfw, hfm⟩ := canL_false hc
        refine ⟨f.who, .inl ?_⟩
        unfold rbar
        rw [(addsN_is _ _ inc_nil).2]
        refine .inr (List.mem_map.2 ⟨f, List.mem_filter.2 ⟨hf, ?_⟩, rfl⟩)
        unfold barP
        rw [← hxe, hfm, Bool.and_eq_true, Bool.and_eq_true, beq_iff_eq, bne_iff_ne, hxe]
        exact ⟨⟨hfs, by rw [← hwho, ← hxe]; exact hfw⟩, rfl⟩
      · refine ⟨x.who, .inr ?_⟩
        unfold tillL prs
        rw [List.map_cons, List.takeWhile_cons, if_pos (by simpa using hx)]
        exact List.mem_cons_self
  obtain ⟨y, hy⟩ := key
  have h3 := (h2 y).2 hy
  intro h4
  rw [h4] at h3
  cases h3
theorem find_ok {D : LkS} (h : BInv D) (who : Int) : (waitsL D who).2.2 = decide (0 < (forL D who).length) ∧ ∀ y ∈ forL D who, y ≠ who ∧ thereB D (waitsL D who).1 who y = true := by
  cases hw : wishL D.W who with
  | none =>
    have h1 : waitsL D who = ((0, false, 0), 0, false) := by unfold waitsL; rw [hw]
    rw [h1, for_none hw]
    exact ⟨rfl, fun y hy => by cases hy⟩
  | some e =>
    have h1 : waitsL D who = (e.s, e.m, true) := by unfold waitsL; rw [hw]
    have h2 := for_some h hw
    rw [h1]
    refine ⟨(decide_eq_true ?_).symm, fun y hy => for_there h.inv hw hy⟩
    exact List.length_pos_iff.2 h2
theorem there_take {l : List (Int × Int)} {k : Nat} {p : Int × Int} (y : Int) (b : Bool) (h : l[k]? = some p) : (b || ((l.take (k + 1)).map Prod.fst).contains y) = ((b || ((l.take k).map Prod.fst).contains y) || p.1 == y) := by
  rw [List.take_add_one, h, List.map_append, Bool.or_assoc]
  refine congrArg _ ?_
  rw [Bool.eq_iff_iff, Bool.or_eq_true, List.contains_iff_mem, List.contains_iff_mem, List.mem_append, beq_iff_eq]
  simp only [Option.toList_some, List.map_cons, List.map_nil, List.mem_singleton]
  exact or_congr Iff.rfl ⟨fun h => h.symm, fun h => h.symm⟩
theorem waits_wf {N : Nat} {D : LkS} (h : DOk N D) (who : Int) : SWf (waitsL D who).1 := by
  unfold waitsL
  cases hw : wishL D.W who with
  | none => unfold SWf; decide
  | some e => exact (h.wf.2 e (wish_some hw).1).2
theorem for_wf {N : Nat} {D : LkS} (h : DOk N D) (who : Int) : ∀ y ∈ forL D who, (Lit.int .i64 y).wf = true := fun y hy => by
  cases hw : wishL D.W who with
  | none => rw [for_none hw] at hy; cases hy
  | some e =>
    rw [← rfor_eq h.inv who] at hy
    unfold rforL at hy
    rw [hw] at hy
    rcases ((addsN_is (tillL (prs (queueL D.H D.W e.s)) who) _ (rbar_inc D.H e.s who e.m)).2 y).1 hy with h2 | h2
    · unfold rbar at h2
      rw [(addsN_is _ _ inc_nil).2] at h2
      simp only [List.not_mem_nil, false_or, List.mem_map, List.mem_filter] at h2
      obtain ⟨x, ⟨hx, _⟩, rfl⟩ := h2
      exact (h.wf.1 x hx).1
    · unfold tillL at h2
      obtain ⟨p, hp, rfl⟩ := List.mem_map.1 h2
      have hp2 := (List.takeWhile_prefix _).subset hp
      obtain ⟨x, hx, rfl⟩ := List.mem_map.1 hp2
      exact (h.wf.2 x (queueL_mem hx).1).1
theorem for_len {N : Nat} {D : LkS} (h : DOk N D) (who : Int) : (forL D who).length ≤ N := by
  cases hw : wishL D.W who with
  | none => rw [for_none hw]; exact Nat.zero_le _
  | some e =>
    rw [← rfor_eq h.inv who]
    unfold rforL
    rw [hw]
    have h1 := addsN_len (tillL (prs (queueL D.H D.W e.s)) who) (rbar D.H e.s who e.m)
    have h2 := rbar_len D.H e.s who e.m
    have h3 : (tillL (prs (queueL D.H D.W e.s)) who).length ≤ D.W.length := by
      unfold tillL
      rw [List.length_map]
      refine Nat.le_trans (List.takeWhile_prefix _).length_le ?_
      unfold prs
      rw [List.length_map]
      exact queueL_le _ _ _
    have h4 := h.few
    show (addsN (rbar D.H e.s who e.m) (tillL (prs (queueL D.H D.W e.s)) who)).length ≤ N
    omega
end Go.Proofs.YtokeciekncincabGreat
