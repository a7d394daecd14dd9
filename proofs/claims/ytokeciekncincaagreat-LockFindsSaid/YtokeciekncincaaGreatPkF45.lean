/-
  Whom Holders and For of the document tell: what the program's tell. Plain Lean.
  No condition.
  Walk of the document's For.
  No condition but sizes.
-/
import Derived.Test.YtokeciekncincaaGreatPkF42
import Derived.Test.YtokeciekncincaaGreatPkF44
import Derived.Test.YtokeciekncincaaGreatPkF34
import Derived.Test.YtokeciekncincaaGreatPkF38
namespace Go.Proofs.YtokeciekncincaaGreat
open Go

theorem keysM_inc {H : List LkE} (hn : H.Pairwise fun a b => ¬ (a.who = b.who ∧ a.s = b.s)) (s : Spot) : Inc (keysM (holdsOf H s)) := by
  have h1 := List.pairwise_mergeSort (le := fun x y : Int => decide (x ≤ y)) (fun a b c => by simp; omega) (fun a b => by simp; omega) ((holdsOf H s).map Prod.fst)
  have h2 : (keysM (holdsOf H s)).Nodup := keysM_nodup hn s
  unfold Inc
  have h3 := List.pairwise_and_iff.2 ⟨h1, h2⟩
  exact h3.imp fun {a b} h => by
    have h4 := h.1
    have h5 := h.2
    rw [decide_eq_true_eq] at h4
    omega
theorem rkeys_eq {H : List LkE} (hn : H.Pairwise fun a b => ¬ (a.who = b.who ∧ a.s = b.s)) (s : Spot) : rkeys H s = keysM (holdsOf H s) := by
  refine inc_ext (rkeys_inc H s) (keysM_inc hn s) fun x => ?_
  unfold rkeys
  rw [(addsN_is _ _ inc_nil).2, (keysM_perm _).mem_iff]
  unfold holdsOf prs
  rw [List.map_map]
  simp only [List.not_mem_nil, false_or]
  exact Iff.rfl
theorem rholders_eq {H : List LkE} (hn : H.Pairwise fun a b => ¬ (a.who = b.who ∧ a.s = b.s)) (s : Spot) : prs (rholdersL H s) = holdersL H s := by
  unfold rholdersL holdersL prs
  rw [List.map_map, rkeys_eq hn]
  rfl
def rforL (D : LkS) (who : Int) : List Int := match wishL D.W who with
  | none => []
  | some w => addsN (rbar D.H w.s who w.m) (tillL (prs (queueL D.H D.W w.s)) who)
theorem rfor_eq {D : LkS} (h : LInv D) (who : Int) : rforL D who = forL D who := by
  cases hw : wishL D.W who with
  | none => unfold rforL forL; rw [hw]
  | some e =>
    have h1 : rforL D who = addsN (rbar D.H e.s who e.m) (tillL (prs (queueL D.H D.W e.s)) who) := by unfold rforL; rw [hw]
    obtain ⟨h2, h3⟩ := addsN_is (tillL (prs (queueL D.H D.W e.s)) who) _ (rbar_inc D.H e.s who e.m)
    rw [h1]
    refine (for_eval hw h2 fun y => ?_).symm
    rw [h3, List.mem_append]
    refine or_congr ?_ Iff.rfl
    unfold rbar barL holdsOf prs
    rw [(addsN_is _ _ inc_nil).2, List.map_map]
    simp only [List.not_mem_nil, false_or, List.mem_map, List.mem_filter]
    constructor
    · rintro ⟨x, ⟨hx, hp⟩, rfl⟩
      unfold barP at hp
      rw [Bool.and_eq_true, Bool.and_eq_true, beq_iff_eq] at hp
      refine ⟨(x.who, heldL D.H x.who e.s), ⟨⟨x, ⟨hx, by rw [beq_iff_eq]; exact hp.1.1⟩, rfl⟩, ?_⟩, rfl⟩
      rw [← hp.1.1, heldL_mem h.hn hx]
      rw [Bool.and_eq_true]
      exact ⟨hp.1.2, hp.2⟩
    · rintro ⟨p, ⟨⟨x, ⟨hx, hs⟩, rfl⟩, hp⟩, rfl⟩
      refine ⟨x, ⟨hx, ?_⟩, rfl⟩
      rw [beq_iff_eq] at hs
      have hp2 : (x.who != who && !besM e.m (heldL D.H x.who e.s)) = true := hp
      rw [← hs, heldL_mem h.hn hx] at hp2
      unfold barP
      rw [hs, beq_self_eq_true, Bool.true_and]
      exact hp2
end Go.Proofs.YtokeciekncincaaGreat
namespace Go.Proofs.YtokeciekncincaaGreat
open Go Go.RowKit Go.Maps

theorem rfor_none {D : LkS} {who : Int} (h : wishL D.W who = none) : rforL D who = [] := by unfold rforL; rw [h]
theorem rfor_some {D : LkS} {who : Int} {x : LkE} (h : wishL D.W who = some x) : rforL D who = addsN (rbar D.H x.s who x.m) (tillL (prs (queueL D.H D.W x.s)) who) := by unfold rforL; rw [h]
theorem prs_get {l : List LkE} {k : Nat} {e : LkE} (h : l[k]? = some e) : (prs l)[k]? = some (e.who, e.m) := by
  unfold prs
  rw [List.getElem?_map, h]
  rfl
theorem prs_take_fst {l : List LkE} {k : Nat} {e : LkE} (h : l[k]? = some e) : ((prs l).take (k + 1)).map Prod.fst = ((prs l).take k).map Prod.fst ++ [e.who] := by
  rw [List.take_add_one, prs_get h, List.map_append]
  rfl
theorem till_len (r : List Int) (l : List LkE) (k : Nat) : (addsN r (((prs l).take k).map Prod.fst)).length ≤ r.length + l.length := by
  have h1 := addsN_len (((prs l).take k).map Prod.fst) r
  rw [List.length_map, List.length_take] at h1
  have h2 : (prs l).length = l.length := by unfold prs; rw [List.length_map]
  omega
end Go.Proofs.YtokeciekncincaaGreat
