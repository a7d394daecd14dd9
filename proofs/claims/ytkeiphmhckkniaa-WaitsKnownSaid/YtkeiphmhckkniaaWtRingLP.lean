/-
  What a ring that is told is: plain Lean.
  No condition.
-/
import Derived.Test.YtkeiphmhckkniaaWtRingP
import Derived.Test.YtkeiphmhckkniaaWtPartsP
namespace Go.Proofs.Ytkeiphmhckkniaa
open Go Go.RowKit

theorem rings_len {G : List (List Int)} {s : Nat} : ∀ {f : Nat} {l : List Nat} {a : Nat}, (ringsP G s f l a).length ≤ l.length + f
  | 0, l, a => by unfold ringsP; split <;> simp
  | f + 1, l, a => by
    rcases Decidable.em (ringsP G s (f + 1) l a = []) with h | h
    · rw [h]; simp
    · unfold ringsP at h ⊢
      obtain ⟨b, hb, e, -⟩ := firstTo_mem h
      rw [e]
      split
      · simp
      · have := rings_len (G := G) (s := s) (f := f) (l := l ++ [b]) (a := b)
        simp at this
        omega
theorem ringP_len (G : List (List Int)) (s : Nat) : (ringP G s).length ≤ G.length := by
  rcases Decidable.em (ringP G s = []) with h | h
  · rw [h]; simp
  · unfold ringP at h ⊢
    obtain ⟨f, hf, e, -⟩ := firstTo_mem h
    rw [e]
    have := rings_len (G := G) (s := s) (f := f) (l := [s]) (a := s)
    simp at this
    omega
/-- A way through different nodes. -/
structure RP (G : List (List Int)) (s : Nat) (l : List Nat) (a : Nat) : Prop where
  ne : 0 < l.length
  head : l.getD 0 0 = s
  last : l.getD (l.length - 1) 0 = a
  step : ∀ k, k + 1 < l.length → sees G (l.getD k 0) (l.getD (k + 1) 0) = true
  nodup : l.Nodup
  lt : ∀ x ∈ l, x < G.length
theorem RP.start {G : List (List Int)} {s : Nat} (hs : s < G.length) : RP G s [s] s := ⟨by simp, rfl, rfl, (fun k hk => by simp at hk), by simp, fun x hx => by rw [List.mem_singleton.1 hx]; exact hs⟩
theorem getD_app {l : List Nat} {x k : Nat} (h : k < l.length) : (l ++ [x]).getD k 0 = l.getD k 0 := by
  rw [List.getD_eq_getElem?_getD, List.getElem?_append_left h, ← List.getD_eq_getElem?_getD]
theorem getD_last {l : List Nat} {x : Nat} : (l ++ [x]).getD l.length 0 = x := by simp [List.getD_eq_getElem?_getD]
theorem RP.snoc {G : List (List Int)} {s a b : Nat} {l : List Nat} (h : RP G s l a) (hs : sees G a b = true) (hb : b < G.length) (hn : b ∉ l) : RP G s (l ++ [b]) b := by
  have h0 := h.ne
  refine ⟨by simp, by rw [getD_app h0]; exact h.head, ?_, fun k hk => ?_, ?_, fun x hx => ?_⟩
  · rw [List.length_append, List.length_singleton, Nat.add_sub_cancel]; exact getD_last
  · simp only [List.length_append, List.length_singleton] at hk
    by_cases e : k + 1 < l.length
    · rw [getD_app (by omega), getD_app e]; exact h.step k e
    · obtain rfl : k = l.length - 1 := by omega
      rw [getD_app (by omega), h.last, show l.length - 1 + 1 = l.length by omega, getD_last]; exact hs
  · rw [List.nodup_append]
    exact ⟨h.nodup, by simp, fun x hx y hy e => hn (by rw [List.mem_singleton] at hy; rw [← hy, ← e]; exact hx)⟩
  · rcases List.mem_append.1 hx with hx | hx
    · exact h.lt x hx
    · rw [List.mem_singleton.1 hx]; exact hb
theorem rings_rp {G : List (List Int)} {s : Nat} : ∀ {f : Nat} {l : List Nat} {a : Nat}, RP G s l a → ringsP G s f l a ≠ [] → ∃ a', RP G s (ringsP G s f l a) a' ∧ sees G a' s = true
  | 0, l, a, h, hne => by
    unfold ringsP at hne ⊢
    by_cases hs : sees G a s = true
    · rw [if_pos hs]; exact ⟨a, h, hs⟩
    · rw [if_neg hs] at hne; exact absurd rfl hne
  | f + 1, l, a, h, hne => by
    unfold ringsP at hne ⊢
    obtain ⟨b, hb, e, -⟩ := firstTo_mem hne
    rw [e] at hne ⊢
    by_cases hc : (l.contains b || !sees G a b) = true
    · rw [if_pos hc] at hne; exact absurd rfl hne
    · rw [if_neg hc] at hne ⊢
      simp only [Bool.or_eq_true, not_or, Bool.not_eq_true, Bool.not_eq_false'] at hc
      refine rings_rp (h.snoc hc.2 hb fun hm => ?_) hne
      rw [List.contains_iff_mem.2 hm] at hc
      cases hc.1
theorem ring_rp {G : List (List Int)} {s : Nat} (hs : s < G.length) (hne : ringP G s ≠ []) : ∃ a', RP G s (ringP G s) a' ∧ sees G a' s = true := by
  unfold ringP at hne ⊢
  obtain ⟨f, hf, e, -⟩ := firstTo_mem hne
  rw [e] at hne ⊢
  exact rings_rp (RP.start hs) hne
/-- Each points to the next one, the last to the first. -/
theorem ring_next {G : List (List Int)} {s k : Nat} (hs : s < G.length) (hk : k < (ringP G s).length) : sees G ((ringP G s).getD k 0) ((ringP G s).getD ((k + 1) % (ringP G s).length) 0) = true := by
  obtain ⟨a, h, hl⟩ := ring_rp hs (fun e => by rw [e] at hk; cases hk)
  by_cases e : k + 1 < (ringP G s).length
  · rw [Nat.mod_eq_of_lt e]; exact h.step k e
  · have e2 : k + 1 = (ringP G s).length := by omega
    rw [e2, Nat.mod_self, h.head]
    have : (ringP G s).getD k 0 = a := by rw [← h.last]; congr 1; omega
    rw [this]; exact hl
theorem Steps.leads {G : List (List Int)} {s d a : Nat} (h : Steps G s (d + 1) a) : Leads G a s := by
  induction d generalizing a with
  | zero =>
    cases h with
    | more h1 h2 h3 h4 => cases h4; exact Leads.one h1 h2 h3
  | succ d ih =>
    cases h with
    | more h1 h2 h3 h4 => exact (Leads.one h1 h2 h3).trans (ih h4)
theorem Leads.steps {G : List (List Int)} {s a : Nat} (h : Leads G a s) : ∃ d, Steps G s (d + 1) a := by
  have key : ∀ {b}, Leads G a b → ∀ {d}, Steps G s d b → ∃ d', Steps G s (d' + 1) a := by
    intro b hb
    induction hb with
    | one h1 h2 h3 => exact fun hd => ⟨_, .more h1 h2 h3 hd⟩
    | more h1 h2 h3 ih => exact fun hd => ih (.more h2 h1.lt h3 hd)
  exact key h .zero
theorem ring_iff {G : List (List Int)} {s : Nat} {F : List Int} (h : FarOk G s F) (hs : s < G.length) : decide (0 < (ringP G s).length) = wayP G s s := by
  rw [Bool.eq_iff_iff, decide_eq_true_eq, wayP_iff]
  constructor
  · intro hl
    have hne : ringP G s ≠ [] := fun e => by rw [e] at hl; cases hl
    unfold ringP at hne
    obtain ⟨f, hf, e, -⟩ := firstTo_mem hne
    rw [e] at hne
    exact (rings_steps hs hs hne).leads
  · intro hl
    obtain ⟨d, hd⟩ := hl.steps
    cases hd with
    | more k1 k2 k3 k4 =>
      rename_i b
      have hb := h.le k3 k4
      rcases bestP_spec (F := F) _ (ofP G s) rfl (fun x hx => (ofP_in x hx).1) (ofP_inc G s) with ⟨h1, h2⟩ | ⟨h1, h2, h3⟩
      · have := h2 _ ((sees_ofP k3).2 k1)
        rw [Int.toNat_natCast] at this; omega
      · obtain ⟨c, e, hc, hsc⟩ := ofP_nodes h1
        rw [e] at h2 h3
        simp only [Int.toNat_natCast] at h2 h3
        have hnx : Nx G F s (F.getD c 0).toNat := ⟨⟨c, hc, hsc, by omega⟩, fun x hx hsx => by
          have := h3 _ ((sees_ofP hx).2 hsx)
          simp only [Int.toNat_natCast] at this
          omega⟩
        have hlt := h.lt c hc
        rw [ring_some h hs (by omega) hnx]
        simp
def anyB (G : List (List Int)) (m : Nat) : Bool := (List.range m).any fun i => wayP G i i
def sinkB (G : List (List Int)) (m : Nat) : Bool := decide (G.length = 0) || (List.range m).any fun i => (reachP G i).isEmpty
theorem anyB_succ (G : List (List Int)) (m : Nat) : anyB G (m + 1) = (anyB G m || wayP G m m) := by unfold anyB; simp [List.range_succ, List.any_append]
theorem sinkB_succ (G : List (List Int)) (m : Nat) : sinkB G (m + 1) = (sinkB G m || (reachP G m).isEmpty) := by unfold sinkB; simp [List.range_succ, List.any_append, Bool.or_assoc]
theorem any_acyc (G : List (List Int)) : okP G [] = !anyB G G.length := by
  rw [ok_acyc]
  unfold acycP anyB
  rw [List.not_any_eq_all_not]
theorem any_sink (G : List (List Int)) : (anyB G G.length || sinkB G G.length) = true := by
  cases ha : anyB G G.length with
  | true => rfl
  | false =>
    rw [Bool.false_or]
    unfold sinkB
    rcases Nat.eq_zero_or_pos G.length with h0 | h0
    · rw [h0]; rfl
    · have hok : okP G [] = true := by rw [any_acyc, ha]; rfl
      have hol : (orderP G []).length = G.length := by unfold okP at hok; exact of_decide_eq_true hok
      obtain ⟨hc, ho⟩ := orderP_chain G []
      obtain ⟨x, hx⟩ : ∃ x, (orderP G [])[G.length - 1]? = some x := ⟨_, List.getElem?_eq_getElem (by omega)⟩
      have hxl := ho.2 x (List.mem_of_getElem? hx)
      have hno : ∀ b, b < G.length → sees G x b = false := fun b hb => by
        cases hs : sees G x b with
        | false => rfl
        | true =>
          obtain ⟨j, hj⟩ := List.getElem?_of_mem (ho.full hol b hb)
          have := chain_before hc hx hj hs hxl ho.1
          have := (List.getElem?_eq_some_iff.1 hj).1
          omega
      have hr : reachP G x = [] := by
        cases hr : reachP G x with
        | nil => rfl
        | cons y l =>
          obtain ⟨t, e, hl⟩ := mem_reachP.1 (show y ∈ reachP G x by rw [hr]; simp)
          have key : ∀ {t}, Leads G x t → False := by
            intro t hl
            induction hl with
            | one h1 h2 h3 => rw [hno _ h3] at h1; cases h1
            | more _ _ _ ih => exact ih
          exact (key hl).elim
      rw [Bool.or_eq_true, List.any_eq_true]
      exact .inr ⟨x, List.mem_range.2 hxl, by rw [hr]; rfl⟩
end Go.Proofs.Ytkeiphmhckkniaa
