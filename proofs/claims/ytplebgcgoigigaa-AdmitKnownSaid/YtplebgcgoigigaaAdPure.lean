/-
  What gates keep, in plain lists. No program in sight.
  No condition.
-/
import Derived.Test.YtplebgcgoigigaaAdGate2
namespace Go.Proofs.Ytplebgcgoigigaa
open Go Go.RowKit

def Apart (p q : Int × Nd) : Prop := ¬ (p.2.proc = q.2.proc ∧ (p.2.single = true ∨ q.2.single = true))
theorem Apart.symm {p q : Int × Nd} (h : Apart p q) : Apart q p := fun k => h ⟨k.1.symm, k.2.symm⟩
structure Inv (c : CapD) (M : List (Int × Nd)) : Prop where
  caps : c.may = true
  each : ∀ p ∈ M, p.2.may = true ∧ (Lit.int .i64 p.1).wf = true
  l : sumP Nd.l M ≤ c.l
  u : sumP Nd.u M ≤ c.u
  n : (M.length : Int) ≤ c.n
  apart : M.Pairwise Apart
  keys : (M.map Prod.fst).Nodup
theorem fitsN_iff {x : Int} : fitsN x = true ↔ 0 ≤ x ∧ x ≤ 4611686018427387904 := by unfold fitsN; rw [Bool.and_eq_true, decide_eq_true_eq, decide_eq_true_eq]
theorem Nd.may_iff {n : Nd} : n.may = true ↔ 0 ≤ n.proc ∧ (0 ≤ n.l ∧ n.l ≤ 4611686018427387904) ∧ 0 ≤ n.u ∧ n.u ≤ 4611686018427387904 := by
  unfold Nd.may; rw [Bool.and_eq_true, Bool.and_eq_true, decide_eq_true_eq, fitsN_iff, fitsN_iff]
theorem CapD.may_iff {c : CapD} : c.may = true ↔ (0 ≤ c.n ∧ c.n ≤ 4611686018427387904) ∧ (0 ≤ c.l ∧ c.l ≤ 4611686018427387904) ∧ 0 ≤ c.u ∧ c.u ≤ 4611686018427387904 := by
  unfold CapD.may; rw [Bool.and_eq_true, Bool.and_eq_true, fitsN_iff, fitsN_iff, fitsN_iff]
theorem CapD.wf_of {c : CapD} (h : c.may = true) : c.wf := by
  have := CapD.may_iff.1 h
  unfold CapD.wf wrap64
  omega
theorem sumP_one (M : List (Int × Nd)) : sumP (fun _ => 1) M = (M.length : Int) := by
  induction M with
  | nil => rfl
  | cons x M ih => simp only [sumP, List.length_cons, ih]; omega
theorem sumP_nonneg {p : Nd → Int} {M : List (Int × Nd)} (h : ∀ x ∈ M, 0 ≤ p x.2) : 0 ≤ sumP p M := by
  induction M with
  | nil => simp [sumP]
  | cons x M ih =>
    have h1 := h x (by simp)
    have h2 := ih fun y hy => h y (by simp [hy])
    simp only [sumP]; omega
section
variable {c : CapD} {M : List (Int × Nd)} {n : Nd} {x : Int}
theorem Inv.nonneg (h : Inv c M) : 0 ≤ sumP Nd.l M ∧ 0 ≤ sumP Nd.u M :=
  ⟨sumP_nonneg fun p hp => (Nd.may_iff.1 (h.each p hp).1).2.1.1, sumP_nonneg fun p hp => (Nd.may_iff.1 (h.each p hp).1).2.2.1⟩
theorem Inv.room (h : Inv c M) : roomOf c M = ⟨c.n - M.length, c.l - sumP Nd.l M, c.u - sumP Nd.u M⟩ := by
  have h1 := CapD.may_iff.1 h.caps
  have h2 := h.nonneg
  have h3 := h.l
  have h4 := h.u
  have h5 := h.n
  unfold roomOf
  rw [sumP_one]
  simp only [CapD.mk.injEq]
  unfold wrap64
  omega
theorem clash_iff {n : Nd} {p : Int × Nd} : clash n p = true ↔ p.2.proc = n.proc ∧ (p.2.single = true ∨ n.single = true) := by
  unfold clash; rw [Bool.and_eq_true, beq_iff_eq, Bool.or_eq_true]
theorem Inv.may (h : Inv c M) : mayP c M n = true ↔ n.may = true ∧ (∀ p ∈ M, clash n p = false) ∧ (M.length : Int) + 1 ≤ c.n ∧ n.l ≤ c.l - sumP Nd.l M ∧ n.u ≤ c.u - sumP Nd.u M := by
  unfold mayP roomFor
  rw [h.room]
  simp only [Bool.and_eq_true, Bool.not_eq_true', decide_eq_true_eq, and_assoc]
  have e : (M.any (clash n) = false) ↔ ¬ ∃ p, p ∈ M ∧ clash n p = true := by rw [← Bool.not_eq_true, List.any_eq_true]
  rw [e]
  constructor
  · rintro ⟨h1, h2, h3, h4, h5⟩
    exact ⟨h1, fun p hp => by rw [← Bool.not_eq_true]; exact fun hc => h2 ⟨p, hp, hc⟩, by omega, h4, h5⟩
  · rintro ⟨h1, h2, h3, h4, h5⟩
    exact ⟨h1, (fun ⟨p, hp, hc⟩ => by rw [h2 p hp] at hc; cases hc), by omega, h4, h5⟩
theorem Inv.nil (h : c.may = true) : Inv c [] := by
  have := CapD.may_iff.1 h
  exact ⟨h, by simp, by simp [sumP]; omega, by simp [sumP]; omega, by simp; omega, List.Pairwise.nil, by simp⟩
theorem hasK_iff : hasK M x = true ↔ ∃ n, (x, n) ∈ M := by
  unfold hasK
  rw [List.contains_iff_mem, List.mem_map]
  exact ⟨fun ⟨p, hp, e⟩ => ⟨p.2, by rw [← e]; exact hp⟩, fun ⟨n, hn⟩ => ⟨_, hn, rfl⟩⟩
theorem Inv.add (h : Inv c M) (hx : (Lit.int .i64 x).wf = true) (hk : hasK M x = false) (hm : mayP c M n = true) : Inv c (M ++ [(x, n)]) := by
  obtain ⟨h1, h2, h3, h4, h5⟩ := h.may.1 hm
  refine ⟨h.caps, fun p hp => ?_, ?_, ?_, ?_, ?_, ?_⟩
  · rcases List.mem_append.1 hp with hp | hp
    · exact h.each p hp
    · simp at hp; subst hp; exact ⟨h1, hx⟩
  · rw [sumP_app]; show sumP Nd.l M + (n.l + 0) ≤ _; omega
  · rw [sumP_app]; show sumP Nd.u M + (n.u + 0) ≤ _; omega
  · simp; omega
  · rw [List.pairwise_append]
    refine ⟨h.apart, by simp, fun p hp q hq hc => ?_⟩
    simp at hq; subst hq
    have := h2 p hp
    rw [← Bool.not_eq_true, clash_iff] at this
    exact this hc
  · rw [List.map_append, List.nodup_append]
    refine ⟨h.keys, by simp, fun a ha b hb e => ?_⟩
    simp at hb; subst hb; subst e
    unfold hasK at hk
    rw [← Bool.not_eq_true, List.contains_iff_mem] at hk
    exact hk ha
theorem Inv.enter (h : Inv c M) (hx : (Lit.int .i64 x).wf = true) : Inv c (enterM c M x n) := by
  unfold enterM
  split
  · exact h
  · rename_i h1
    split
    · rename_i h2
      simp only [Bool.or_eq_true, not_or, Bool.not_eq_true] at h1
      exact h.add hx h1.1 h2
    · exact h
theorem sumP_filter {p : Nd → Int} {f : Int × Nd → Bool} {M : List (Int × Nd)} (h : ∀ x ∈ M, 0 ≤ p x.2) : sumP p (M.filter f) ≤ sumP p M := by
  induction M with
  | nil => simp [sumP]
  | cons x M ih =>
    have h1 := h x (by simp)
    have h2 := ih fun y hy => h y (by simp [hy])
    rw [List.filter_cons]
    split <;> simp only [sumP] <;> omega
theorem Inv.leave (h : Inv c M) (x : Int) : Inv c (leaveM M x) := by
  unfold leaveM
  have hs : (M.filter fun p => !decide (p.1 = x)).Sublist M := List.filter_sublist
  have h1 := sumP_filter (p := Nd.l) (f := fun p => !decide (p.1 = x)) (M := M) fun p hp => (Nd.may_iff.1 (h.each p hp).1).2.1.1
  have h2 := sumP_filter (p := Nd.u) (f := fun p => !decide (p.1 = x)) (M := M) fun p hp => (Nd.may_iff.1 (h.each p hp).1).2.2.1
  have h3 := hs.length_le
  have h4 := h.l
  have h5 := h.u
  have h6 := h.n
  exact ⟨h.caps, fun p hp => h.each p (hs.mem hp), by omega, by omega, by omega, h.apart.sublist hs, (hs.map _).nodup h.keys⟩
/-- Who may come in may also when others have left. -/
theorem Inv.more (h : Inv c M) (x : Int) (hm : mayP c M n = true) : mayP c (leaveM M x) n = true := by
  obtain ⟨h1, h2, h3, h4, h5⟩ := h.may.1 hm
  have hs : (leaveM M x).Sublist M := List.filter_sublist
  have h6 := hs.length_le
  have h7 := sumP_filter (p := Nd.l) (f := fun p => !decide (p.1 = x)) (M := M) fun p hp => (Nd.may_iff.1 (h.each p hp).1).2.1.1
  have h8 := sumP_filter (p := Nd.u) (f := fun p => !decide (p.1 = x)) (M := M) fun p hp => (Nd.may_iff.1 (h.each p hp).1).2.2.1
  have h9 : sumP Nd.l (leaveM M x) ≤ sumP Nd.l M := h7
  have h10 : sumP Nd.u (leaveM M x) ≤ sumP Nd.u M := h8
  exact (h.leave x).may.2 ⟨h1, fun p hp => h2 p (hs.mem hp), by omega, by omega, by omega⟩
theorem leave_keeps {y : Int} (h : hasK M y = true) (hne : y ≠ x) : hasK (leaveM M x) y = true := by
  obtain ⟨n, hn⟩ := hasK_iff.1 h
  exact hasK_iff.2 ⟨n, List.mem_filter.2 ⟨hn, by simpa using hne⟩⟩
theorem Inv.perm {M' : List (Int × Nd)} (h : Inv c M) (hp : M.Perm M') : Inv c M' := by
  have h1 := sumP_perm Nd.l hp
  have h2 := sumP_perm Nd.u hp
  have h3 := hp.length_eq
  have h4 := h.l
  have h5 := h.u
  have h6 := h.n
  exact ⟨h.caps, fun p hq => h.each p (hp.mem_iff.2 hq), by omega, by omega, by omega, (hp.pairwise_iff fun {a b} => Apart.symm).1 h.apart, (hp.map _).nodup_iff.1 h.keys⟩
theorem enter_len (c : CapD) (M : List (Int × Nd)) (x : Int) (n : Nd) : (enterM c M x n).length ≤ M.length + 1 := by
  unfold enterM
  split
  · omega
  · split
    · simp
    · omega
theorem leave_len (M : List (Int × Nd)) (x : Int) : (leaveM M x).length ≤ M.length := List.length_filter_le _ _
theorem Inv.key_wf (h : Inv c M) (hx : hasK M x = true) : (Lit.int .i64 x).wf = true := by
  obtain ⟨n, hn⟩ := hasK_iff.1 hx
  exact (h.each _ hn).2
theorem keys_of_has (h : x ∈ M.map Prod.fst) : hasK M x = true := by unfold hasK; exact List.contains_iff_mem.2 h
end
end Go.Proofs.Ytplebgcgoigigaa
