/-
  What holders and queues are, where all go beside each other. Plain.
  No condition.
-/
import Derived.Test.YtokeciekncincabGreatPkC38
import Derived.Test.YtokeciekncincabGreatPkC21
import Derived.Test.YtokeciekncincabGreatPkC1
namespace Go.Proofs.YtokeciekncincabGreat
open Go

theorem holders_mem {H : List LkE} {s : Spot} {p : Int × Int} (h : p ∈ holdersL H s) : p.2 = heldL H p.1 s ∧ ∃ e ∈ H, e.s = s ∧ e.who = p.1 := by
  obtain ⟨x, hx, rfl⟩ := List.mem_map.1 h
  obtain ⟨q, hq, rfl⟩ := keysM_mem hx
  obtain ⟨e, he, rfl⟩ := List.mem_map.1 hq
  obtain ⟨h1, h2⟩ := List.mem_filter.1 he
  exact ⟨rfl, e, h1, by simpa using h2, rfl⟩
theorem mem_holders {H : List LkE} {e : LkE} (h : e ∈ H) : (e.who, heldL H e.who e.s) ∈ holdersL H e.s := by
  refine List.mem_map.2 ⟨e.who, (keysM_perm _).mem_iff.2 (List.mem_map.2 ⟨(e.who, e.m), List.mem_map.2 ⟨e, List.mem_filter.2 ⟨h, by simp⟩, rfl⟩, rfl⟩), rfl⟩
theorem holders_fst (H : List LkE) (s : Spot) : (holdersL H s).map Prod.fst = keysM (holdsOf H s) := by
  unfold holdersL
  rw [List.map_map]
  exact List.map_id _
theorem keysM_nodup {H : List LkE} (hn : H.Pairwise fun a b => ¬ (a.who = b.who ∧ a.s = b.s)) (s : Spot) : (keysM (holdsOf H s)).Nodup := by
  rw [(keysM_perm _).nodup_iff]
  unfold holdsOf prs
  rw [List.map_map]
  unfold List.Nodup
  rw [List.pairwise_map]
  have h1 := hn.filter fun e => e.s == s
  exact h1.imp_of_mem fun {a b} ha hb h e => by
    have h2 := (List.mem_filter.1 ha).2
    have h3 := (List.mem_filter.1 hb).2
    rw [beq_iff_eq] at h2 h3
    exact h ⟨e, h2.trans h3.symm⟩
theorem allBes_holders {D : LkS} (h : BInv D) (s : Spot) : AllBes (holdersL D.H s) := by
  have key : ∀ p ∈ holdersL D.H s, ∃ e ∈ D.H, e.s = s ∧ e.who = p.1 ∧ p.2 = e.m := fun p hp => by
    obtain ⟨h1, e, he, hs, hw⟩ := holders_mem hp
    refine ⟨e, he, hs, hw, ?_⟩
    rw [h1, ← hw, ← hs, heldL_mem h.inv.hn he]
  refine ⟨fun p hp => ?_, fun i k p q hi hk hki => ?_⟩
  · obtain ⟨e, he, _, _, hm⟩ := key p hp
    rw [hm]; exact h.inv.hm e he
  · obtain ⟨e, he, hs, hw, hm⟩ := key p (List.mem_iff_getElem?.2 ⟨i, hi⟩)
    obtain ⟨f, hf, hs2, hw2, hm2⟩ := key q (List.mem_iff_getElem?.2 ⟨k, hk⟩)
    rw [hm, hm2]
    refine h.bes e he f hf (hs.trans hs2.symm) fun e2 => ?_
    have hnd := keysM_nodup h.inv.hn s
    rw [← holders_fst] at hnd
    have h1 : ((holdersL D.H s).map Prod.fst)[i]? = some p.1 := by rw [List.getElem?_map, hi]; rfl
    have h2 : ((holdersL D.H s).map Prod.fst)[k]? = some q.1 := by rw [List.getElem?_map, hk]; rfl
    have h3 : p.1 = q.1 := by rw [← hw, ← hw2, e2]
    rw [h3] at h1
    have hil := (List.getElem?_eq_some_iff.1 h1).1
    have := (List.getElem?_inj hil hnd).1 (h1.trans h2.symm)
    omega
theorem upB_iff {D : LkS} (h : LInv D) (s : Spot) (q : Int × Int) : upB (holdersL D.H s) q = true ↔ heldL D.H q.1 s ≠ 0 := by
  unfold upB
  rw [List.any_eq_true]
  constructor
  · rintro ⟨p, hp, hpq⟩
    rw [beq_iff_eq] at hpq
    obtain ⟨_, e, he, hs, hw⟩ := holders_mem hp
    rw [← hpq, ← hw, ← hs, heldL_mem h.hn he]
    exact (h.hm e he).2
  · intro h0
    obtain ⟨e, he, hw, hs, _⟩ := heldL_in h0
    refine ⟨(e.who, heldL D.H e.who e.s), ?_, by rw [beq_iff_eq]; exact hw⟩
    rw [← hs]
    exact mem_holders he
theorem okQ_queue {D : LkS} (h : BInv D) (s : Spot) : OkQ (holdersL D.H s) (prs (queueL D.H D.W s)) := by
  refine ⟨fun p hp => ((allBes_holders h s).1 p hp).1, fun q hq => ?_, fun q hq => ?_, fun i j q r hi hj hji hu => ?_⟩
  · obtain ⟨e, he, rfl⟩ := List.mem_map.1 hq
    exact (h.inv.wm e (queueL_mem he).1).1
  · cases hql : queueL D.H D.W s with
    | nil => rw [hql] at hq; cases hq
    | cons e l =>
      rw [hql] at hq
      have hqe : (e.who, e.m) = q := Option.some.inj hq
      subst hqe
      have hc := h.blk s e l hql
      obtain ⟨f, hf, hs, hw, hb⟩ := canL_false hc
      unfold freeB
      rw [← Bool.not_eq_true, List.all_eq_true]
      intro hall
      have h1 := mem_holders hf
      rw [hs, ← hs, heldL_mem h.inv.hn hf, hs] at h1
      have h2 := hall _ h1
      rw [Bool.or_eq_true, beq_iff_eq] at h2
      rcases h2 with h2 | h2
      · exact hw h2
      · rw [hb] at h2; cases h2
  · rw [upB_iff h.inv] at hu ⊢
    have hmapi : ∃ e, (queueL D.H D.W s)[i]? = some e ∧ (e.who, e.m) = q := by
      unfold prs at hi
      rw [List.getElem?_map, Option.map_eq_some_iff] at hi
      exact hi
    have hmapj : ∃ e, (queueL D.H D.W s)[j]? = some e ∧ (e.who, e.m) = r := by
      unfold prs at hj
      rw [List.getElem?_map, Option.map_eq_some_iff] at hj
      exact hj
    obtain ⟨e, he, rfl⟩ := hmapi
    obtain ⟨f, hf, rfl⟩ := hmapj
    unfold queueL at he hf
    have hil : i < (upL D.H D.W s).length := by
      apply Classical.byContradiction
      intro hn
      rw [List.getElem?_append_right (by omega)] at he
      have h1 := List.mem_iff_getElem?.2 ⟨_, he⟩
      have h2 := (List.mem_filter.1 h1).2
      rw [Bool.and_eq_true, beq_iff_eq, beq_iff_eq] at h2
      exact hu h2.2
    rw [List.getElem?_append_left (by omega)] at hf
    have h1 := List.mem_iff_getElem?.2 ⟨_, hf⟩
    have h2 := (List.mem_filter.1 h1).2
    rw [Bool.and_eq_true, bne_iff_ne] at h2
    exact h2.2
/-- What LockBeside keeps. -/
structure KInv (most : Int) (D : LkS) : Prop where
  b : BInv D
  used : (usedL D : Int) ≤ D.most
  most_ : D.most = max 0 most
theorem kinv_nil (most : Int) : KInv most ⟨max 0 most, [], []⟩ := ⟨nil_b _, by show (0 : Int) ≤ max 0 most; omega, rfl⟩
theorem doKd_k {kd most : Int} {D : LkS} (h : KInv most D) (who : Int) (s : Spot) (m : Int) : KInv most (doKd kd D who s m) := by
  obtain ⟨h1, h2⟩ := doKd_used (kd := kd) h.b.inv h.used who s m
  exact ⟨doKd_b h.b who s m, by rw [h2]; exact h1, h2.trans h.most_⟩
/-- Of who has left there is nothing. -/
theorem left_spots (D : LkS) (h : AllE (fun _ _ => True) D) (who : Int) : spotsL (leaveL D who).2.H who = [] := by
  have h1 := all_leave h who
  refine List.eq_nil_iff_forall_not_mem.2 fun x hx => ?_
  obtain ⟨e, he, hw, _⟩ := ((spotsL_is _ who).2 x).1 hx
  exact (h1.1 e he).2 hw
theorem left_for (D : LkS) (h : AllE (fun _ _ => True) D) (who : Int) : wishL (leaveL D who).2.W who = none := by
  have h1 := all_leave h who
  unfold wishL
  rw [List.find?_eq_none]
  intro e he hw
  rw [beq_iff_eq] at hw
  exact (h1.2 e he).2 hw
theorem all_true (D : LkS) : AllE (fun _ _ => True) D := ⟨fun _ _ => trivial, fun _ _ => trivial⟩
theorem ask_mode {D : LkS} {who : Int} {s : Spot} {m : Int} (h : (askL D who s m).1.2 = 0) : ModeOk m := by
  revert h
  unfold askL
  split
  · intro h; cases h
  rename_i hmay
  intro _
  have hmay : mayL s m = true := by simpa using hmay
  unfold mayL at hmay
  simp only [Bool.and_eq_true, decide_eq_true_eq, bne_iff_ne] at hmay
  exact ⟨hmay.1.1.1.1, hmay.1.1.1.2⟩
theorem ask_err {D : LkS} {who : Int} {s : Spot} {m : Int} (h : (askL D who s m).1.2 ≠ 0) : (askL D who s m).1.1 = false := by
  revert h
  unfold askL
  repeat' split
  all_goals
    intro h
    first
      | rfl
      | exact absurd rfl h
end Go.Proofs.YtokeciekncincabGreat
