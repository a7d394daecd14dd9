/-
  A region that draws its order, whose last operations come behind all others: the condition that is held for the loads is not asked behind these last ones.
  No condition.
  A region that draws its order and has no last operation: the condition holds behind each.
  No condition.
  A region without a last operation: an operation that is not wanted.
  No condition.
-/
import Derived.Deep.RegionHeld3
import Derived.StillTail
namespace Go.Proofs.YtokeciekncincabGreat
open Go

theorem sA {α : Type} (l : List α) (i : Nat) (a : α) : l.toArray.setIfInBounds i a = (l.set i a).toArray := List.setIfInBounds_toArray ..
theorem sB {α : Type} (a b : α) (l : List α) : (a :: l).set 0 b = b :: l := rfl
theorem sC {α : Type} (a b : α) (l : List α) (n : Nat) : (a :: l).set (n + 1) b = a :: l.set n b := rfl
section
variable {P : Program} {md : Region.Mode} {ops : Array Oper} {Q : Exit → Act → World → Prop} {S : World → Prop} {n : Nat}

/-- Whatever order is picked; S holds behind each operation ahead of number n. -/
def wpAnyS (P : Program) (md : Region.Mode) (ops : Array Oper) (Q : Exit → Act → World → Prop) (S : World → Prop) (n : Nat) : Nat → Array Bool → Act → World → Prop
  | 0, listed, a, w => Region.ready md ops listed = [] ∧ Q .normal a w
  | fuel + 1, listed, a, w =>
    (Region.ready md ops listed = [] → Q .normal a w) ∧
    ∀ i ∈ Region.ready md ops listed, wpOp P ops Q i (fun a' w' => (n ≤ i → wpAny P md ops Q fuel (listed.setIfInBounds i true) a' w') ∧ (i < n → S w' ∧ wpAnyS P md ops Q S n fuel (listed.setIfInBounds i true) a' w')) a w

theorem wpAny_of_sink : ∀ (fuel : Nat) (listed : Array Bool) (a : Act) (w : World), wpAnyS P md ops Q S n fuel listed a w → wpAny P md ops Q fuel listed a w
  | 0, _, _, _, h => h
  | fuel + 1, _, _, _, h => ⟨h.1, fun i hi => wpOp_mono (fun a' w' h' => by
      rcases Nat.lt_or_ge i n with hin | hin
      · exact wpAny_of_sink fuel _ a' w' (h'.2 hin).2
      · exact h'.1 hin) (h.2 i hi)⟩

theorem wpAnyS_first {i : Nat} {oi : Oper} {v : Value} (hi : ops[i]? = some oi) (hsel : ∀ (j : Nat) (o : Oper) cs b, ops[j]? = some o → o.op ≠ .select cs b)
    (hs : Region.sinkB md ops n = true) (hc : Region.chainB md ops n = true) (hn : n < ops.size) (hin : i < n)
    (hQ : ∀ c a w, Q (.panic c) (a.put oi.dst v) w → Q (.panic c) a w) :
    ∀ (fuel : Nat) (listed : Array Bool) (a : Act) (w : World), HeadInv md ops n listed →
      (∀ j oj, ops[j]? = some oj → j ≠ i → listed.getD j true = false → (∀ e ∈ oj.after, Region.binds md e = true → e.on ≠ i) → oi.apart ops oj = true) →
      i ∈ Region.ready md ops listed → YieldsIf P ops S oi v a → S w →
      wpAnyS P md ops Q S n fuel (listed.setIfInBounds i true) (a.put oi.dst v) w → wpAnyS P md ops Q S n (fuel + 1) listed a w := by
  intro fuel
  induction fuel with
  | zero =>
    intro listed a w inv _ hr hy hS H
    refine ⟨fun h => (by rw [h] at hr; cases hr), fun j hj => ?_⟩
    by_cases hji : j = i
    · subst hji; exact hy.wpOp hi hS ⟨fun h => by omega, fun _ => ⟨hS, H⟩⟩
    · have := ready_mono hj hji
      rw [H.1] at this
      cases this
  | succ fuel ih =>
    intro listed a w inv hfree hr hy hS H
    refine ⟨fun h => (by rw [h] at hr; cases hr), fun j hj => ?_⟩
    by_cases hji : j = i
    · subst hji; exact hy.wpOp hi hS ⟨fun h => by omega, fun _ => ⟨hS, H⟩⟩
    · have hun : listed.getD i true = false := (mem_ready.1 hr).1
      have hjn : j < n := by
        rcases Nat.lt_or_ge j n with h | h
        · exact h
        · exact absurd hj (tail_waits hs hc hn inv _ i rfl hin hun j h)
      have h1 := H.2 j (ready_mono hj hji)
      obtain ⟨hjun, oj, hoj, hall⟩ := mem_ready.1 hj
      have hnot : ∀ e ∈ oj.after, Region.binds md e = true → e.on ≠ i := fun e he hb heq => by
        have h1 := hall e he hb
        rw [heq, getD_both hun] at h1
        cases h1
      have h2 := wpOp_putIf hoj (hfree j oj hoj hji hjun hnot) (fun cs b => hsel i oi cs b hi) (fun cs b => hsel j oj cs b hoj) hQ hy h1
      have hfree' : ∀ k ok, ops[k]? = some ok → k ≠ i → (listed.setIfInBounds j true).getD k true = false →
          (∀ e ∈ ok.after, Region.binds md e = true → e.on ≠ i) → oi.apart ops ok = true := fun k ok hk hki hun2 hno => by
        refine hfree k ok hk hki ?_ hno
        by_cases hjk : j = k
        · subst hjk; exact hjun
        · rw [getD_set_ne true hjk] at hun2; exact hun2
      refine wpOp_mono (fun a' w' h3 => ⟨fun h => by omega, fun _ => ?_⟩) h2
      have hS' := (h3.2.2 hjn).1
      have hW' := (h3.2.2 hjn).2
      refine ⟨hS', ih (listed.setIfInBounds j true) a' w' (inv.set hj hjn) hfree' (ready_mono hr (Ne.symm hji)) h3.1 hS' ?_⟩
      rw [Array.setIfInBounds_comm _ _ hji]
      exact hW'

/-- What has come up has come up with all that it waits for; none of the last ones has. -/
def headB (md : Region.Mode) (ops : Array Oper) (n : Nat) (listed : Array Bool) : Bool :=
  listed.size == ops.size && ((List.range ops.size).all fun j => (match ops[j]? with | some oj => !listed.getD j false || oj.after.all (fun e => !Region.binds md e || listed.getD e.on false) | none => true) && (decide (j < n) || !listed.getD j true))
theorem headB_spec {listed : Array Bool} (h : headB md ops n listed = true) : HeadInv md ops n listed := by
  unfold headB at h
  rw [Bool.and_eq_true, beq_iff_eq, List.all_eq_true] at h
  refine ⟨h.1, fun j oj hj hl e he hb => ?_, fun t ht htl => ?_⟩
  · have h1 := h.2 j (List.mem_range.2 (Array.getElem?_eq_some_iff.1 hj).1)
    simp only [hj, hl, Bool.not_true, Bool.false_or, Bool.and_eq_true] at h1
    have h2 := Array.all_eq_true_iff_forall_mem.1 h1.1 e he
    simpa [hb] using h2
  · have h1 := h.2 t (List.mem_range.2 htl)
    rw [Bool.and_eq_true] at h1
    have h2 := h1.2
    rw [Bool.or_eq_true, decide_eq_true_eq] at h2
    rcases h2 with h2 | h2
    · omega
    · simpa using h2

/-- All that is asked of the region once. -/
def sinkOk (md : Region.Mode) (ops : Array Oper) (n : Nat) : Bool := Region.noSelect ops && Region.sinkB md ops n && Region.chainB md ops n && decide (n < ops.size)
theorem wpAnyS_take {i : Nat} {oi : Oper} {v : Value} {fuel : Nat} {listed : Array Bool} {a : Act} {w : World} (hi0 : ops.toList[i]? = some oi)
    (hk : (sinkOk md ops n && headB md ops n listed && Region.free md ops listed i && (Region.ready md ops listed).contains i && decide (i < n)) = true)
    (hQ : ∀ c a w, Q (.panic c) (a.put oi.dst v) w → Q (.panic c) a w) (hw : Region.wanted oi (yielded ops a.tmps) = true) (hS : S w) (hy : ∀ w, S w → (execOp a.eval oi).run P w = .ok (.value v) w)
    (h : wpAnyS P md ops Q S n fuel (listed.setIfInBounds i true) (a.put oi.dst v) w) : wpAnyS P md ops Q S n (fuel + 1) listed a w := by
  have hi : ops[i]? = some oi := by rw [← hi0, Array.getElem?_toList]
  unfold sinkOk at hk
  simp only [Bool.and_eq_true, decide_eq_true_eq] at hk
  obtain ⟨⟨⟨⟨⟨⟨⟨h1, h2⟩, h3⟩, h4⟩, h5⟩, h6⟩, h7⟩, h8⟩ := hk
  exact wpAnyS_first hi (Region.noSelect_spec h1) h2 h3 h4 h8 hQ fuel listed a w (headB_spec h5) (Region.free_spec hi h6) (by simpa using h7) (.inl ⟨hw, hy⟩) hS h
/-- .. shortly said. -/
theorem tk (i : Nat) {oi : Oper} {v : Value} {fuel : Nat} {listed : Array Bool} {a : Act} {w : World} (hS : S w)
    (h : wpAnyS P md ops Q S n fuel (listed.setIfInBounds i true) (a.put oi.dst v) w) (hi0 : ops.toList[i]? = some oi := by rfl)
    (hk : (sinkOk md ops n && headB md ops n listed && Region.free md ops listed i && (Region.ready md ops listed).contains i && decide (i < n)) = true := by kernel_rfl)
    (hQ : ∀ c a w, Q (.panic c) (a.put oi.dst v) w → Q (.panic c) a w := by exact fun _ _ _ h => h) (hw : Region.wanted oi (yielded ops a.tmps) = true := by rfl)
    (hy : ∀ w, S w → (execOp a.eval oi).run P w = .ok (.value v) w := by intro _ _; go_simp <;> with_reducible rfl) : wpAnyS P md ops Q S n (fuel + 1) listed a w := wpAnyS_take hi0 hk hQ hw hS hy h
/-- An operation whose guard is not met. -/
theorem wpAnyS_skip {i : Nat} {oi : Oper} {fuel : Nat} {listed : Array Bool} {a : Act} {w : World} (hi0 : ops.toList[i]? = some oi)
    (hk : (sinkOk md ops n && headB md ops n listed && Region.free md ops listed i && (Region.ready md ops listed).contains i && decide (i < n)) = true)
    (hQ : ∀ c a w, Q (.panic c) (a.put oi.dst undef) w → Q (.panic c) a w) (hw : Region.wanted oi (yielded ops a.tmps) = false) (hS : S w)
    (h : wpAnyS P md ops Q S n fuel (listed.setIfInBounds i true) (a.put oi.dst undef) w) : wpAnyS P md ops Q S n (fuel + 1) listed a w := by
  have hi : ops[i]? = some oi := by rw [← hi0, Array.getElem?_toList]
  unfold sinkOk at hk
  simp only [Bool.and_eq_true, decide_eq_true_eq] at hk
  obtain ⟨⟨⟨⟨⟨⟨⟨h1, h2⟩, h3⟩, h4⟩, h5⟩, h6⟩, h7⟩, h8⟩ := hk
  exact wpAnyS_first hi (Region.noSelect_spec h1) h2 h3 h4 h8 hQ fuel listed a w (headB_spec h5) (Region.free_spec hi h6) (by simpa using h7) (.inr ⟨hw, rfl⟩) hS h
/-- The one that may come up, ahead of number n. -/
theorem wpAnyS_one {i : Nat} {oi : Oper} {fuel : Nat} {listed : Array Bool} {a : Act} {w : World} (hi0 : ops.toList[i]? = some oi) (hr : Region.ready md ops listed = [i]) (hin : i < n)
    (hw : Region.wanted oi (yielded ops a.tmps) = true) (h : ∀ K : Act → World → Prop, Shut (∀ a w, S w → wpAnyS P md ops Q S n fuel (listed.setIfInBounds i true) a w → K a w) → oi.wp P a w K Q) : wpAnyS P md ops Q S n (fuel + 1) listed a w := by
  have hi : ops[i]? = some oi := by rw [← hi0, Array.getElem?_toList]
  refine ⟨fun h0 => (by rw [hr] at h0; cases h0), fun j hj => ?_⟩
  rw [hr, List.mem_singleton] at hj
  subst hj
  unfold wpOp
  rw [hi]
  show if Region.wanted oi (yielded ops a.tmps) = true then _ else _
  rw [if_pos hw]
  exact .inl (h _ fun a' w' h1 h2 => ⟨fun h => by omega, fun _ => ⟨h1, h2⟩⟩)
theorem on1 (i : Nat) {oi : Oper} {fuel : Nat} {listed : Array Bool} {a : Act} {w : World} (h : ∀ K : Act → World → Prop, Shut (∀ a w, S w → wpAnyS P md ops Q S n fuel (listed.setIfInBounds i true) a w → K a w) → oi.wp P a w K Q)
    (hi0 : ops.toList[i]? = some oi := by rfl) (hr : Region.ready md ops listed = [i] := by kernel_rfl) (hin : i < n := by decide) (hw : Region.wanted oi (yielded ops a.tmps) = true := by rfl) : wpAnyS P md ops Q S n (fuel + 1) listed a w := wpAnyS_one hi0 hr hin hw h
/-- The last one. -/
theorem wpAnyS_last {i : Nat} {oi : Oper} {fuel : Nat} {listed : Array Bool} {a : Act} {w : World} (hi0 : ops.toList[i]? = some oi) (hr : Region.ready md ops listed = [i]) (hin : n ≤ i) (hd : Region.ready md ops (listed.setIfInBounds i true) = [])
    (hw : Region.wanted oi (yielded ops a.tmps) = true) (h : ∀ K : Act → World → Prop, Shut (∀ a w, Q .normal a w → K a w) → oi.wp P a w K Q) : wpAnyS P md ops Q S n (fuel + 1) listed a w := by
  have hi : ops[i]? = some oi := by rw [← hi0, Array.getElem?_toList]
  refine ⟨fun h0 => (by rw [hr] at h0; cases h0), fun j hj => ?_⟩
  rw [hr, List.mem_singleton] at hj
  subst hj
  unfold wpOp
  rw [hi]
  show if Region.wanted oi (yielded ops a.tmps) = true then _ else _
  rw [if_pos hw]
  exact .inl (h _ fun a' w' hh => ⟨fun _ => wpAny_done hd hh _, fun h => by omega⟩)
theorem wp_region_sink {id : Nat} {a : Act} {w : World} (n : Nat) (S : World → Prop) (hm : P.follows .mixedOrders = true)
    (h : wpAnyS P .any ops Q S n ops.size (Array.replicate ops.size false) a w.drew) : (Code.region id ops true).wp P Q a w :=
  wp_region_any hm (wpAny_of_sink _ _ _ _ h)
end
end Go.Proofs.YtokeciekncincabGreat
namespace Go.Proofs.YtokeciekncincabGreat
open Go
section
variable {P : Program} {md : Region.Mode} {ops : Array Oper} {Q : Exit → Act → World → Prop} {S : World → Prop} {n : Nat}
theorem wpAnyS_firstA {i : Nat} {oi : Oper} {v : Value} (hi : ops[i]? = some oi) (hsel : ∀ (j : Nat) (o : Oper) cs b, ops[j]? = some o → o.op ≠ .select cs b)
    (hn : ops.size ≤ n) (hQ : ∀ c a w, Q (.panic c) (a.put oi.dst v) w → Q (.panic c) a w) :
    ∀ (fuel : Nat) (listed : Array Bool) (a : Act) (w : World), HeadInv md ops n listed →
      (∀ j oj, ops[j]? = some oj → j ≠ i → listed.getD j true = false → (∀ e ∈ oj.after, Region.binds md e = true → e.on ≠ i) → oi.apart ops oj = true) →
      i ∈ Region.ready md ops listed → YieldsIf P ops S oi v a → S w →
      wpAnyS P md ops Q S n fuel (listed.setIfInBounds i true) (a.put oi.dst v) w → wpAnyS P md ops Q S n (fuel + 1) listed a w := by
  intro fuel
  have hlt : ∀ {j : Nat} {listed : Array Bool}, j ∈ Region.ready md ops listed → j < n := fun {j listed} hj => by
    obtain ⟨_, oj, hoj, _⟩ := mem_ready.1 hj
    have := (Array.getElem?_eq_some_iff.1 hoj).1
    omega
  induction fuel with
  | zero =>
    intro listed a w inv _ hr hy hS H
    refine ⟨fun h => (by rw [h] at hr; cases hr), fun j hj => ?_⟩
    by_cases hji : j = i
    · subst hji; exact hy.wpOp hi hS ⟨fun h => by have := hlt hj; omega, fun _ => ⟨hS, H⟩⟩
    · have := ready_mono hj hji
      rw [H.1] at this
      cases this
  | succ fuel ih =>
    intro listed a w inv hfree hr hy hS H
    refine ⟨fun h => (by rw [h] at hr; cases hr), fun j hj => ?_⟩
    by_cases hji : j = i
    · subst hji; exact hy.wpOp hi hS ⟨fun h => by have := hlt hj; omega, fun _ => ⟨hS, H⟩⟩
    · have hun : listed.getD i true = false := (mem_ready.1 hr).1
      have hjn : j < n := hlt hj
      have h1 := H.2 j (ready_mono hj hji)
      obtain ⟨hjun, oj, hoj, hall⟩ := mem_ready.1 hj
      have hnot : ∀ e ∈ oj.after, Region.binds md e = true → e.on ≠ i := fun e he hb heq => by
        have h1 := hall e he hb
        rw [heq, getD_both hun] at h1
        cases h1
      have h2 := wpOp_putIf hoj (hfree j oj hoj hji hjun hnot) (fun cs b => hsel i oi cs b hi) (fun cs b => hsel j oj cs b hoj) hQ hy h1
      have hfree' : ∀ k ok, ops[k]? = some ok → k ≠ i → (listed.setIfInBounds j true).getD k true = false →
          (∀ e ∈ ok.after, Region.binds md e = true → e.on ≠ i) → oi.apart ops ok = true := fun k ok hk hki hun2 hno => by
        refine hfree k ok hk hki ?_ hno
        by_cases hjk : j = k
        · subst hjk; exact hjun
        · rw [getD_set_ne true hjk] at hun2; exact hun2
      refine wpOp_mono (fun a' w' h3 => ⟨fun h => by omega, fun _ => ?_⟩) h2
      have hS' := (h3.2.2 hjn).1
      have hW' := (h3.2.2 hjn).2
      refine ⟨hS', ih (listed.setIfInBounds j true) a' w' (inv.set hj hjn) hfree' (ready_mono hr (Ne.symm hji)) h3.1 hS' ?_⟩
      rw [Array.setIfInBounds_comm _ _ hji]
      exact hW'
theorem tkA (i : Nat) {oi : Oper} {v : Value} {fuel : Nat} {listed : Array Bool} {a : Act} {w : World} (hS : S w)
    (h : wpAnyS P md ops Q S n fuel (listed.setIfInBounds i true) (a.put oi.dst v) w) (hi0 : ops.toList[i]? = some oi := by rfl)
    (hk : (Region.noSelect ops && headB md ops n listed && Region.free md ops listed i && (Region.ready md ops listed).contains i && decide (ops.size ≤ n)) = true := by kernel_rfl)
    (hQ : ∀ c a w, Q (.panic c) (a.put oi.dst v) w → Q (.panic c) a w := by exact fun _ _ _ h => h) (hw : Region.wanted oi (yielded ops a.tmps) = true := by rfl)
    (hy : ∀ w, S w → (execOp a.eval oi).run P w = .ok (.value v) w := by intro _ _; go_simp <;> with_reducible rfl) : wpAnyS P md ops Q S n (fuel + 1) listed a w := by
  have hi : ops[i]? = some oi := by rw [← hi0, Array.getElem?_toList]
  simp only [Bool.and_eq_true, decide_eq_true_eq] at hk
  obtain ⟨⟨⟨⟨h1, h5⟩, h6⟩, h7⟩, h8⟩ := hk
  exact wpAnyS_firstA hi (Region.noSelect_spec h1) h8 hQ fuel listed a w (headB_spec h5) (Region.free_spec hi h6) (by simpa using h7) (.inl ⟨hw, hy⟩) hS h
/-- All have come up. -/
theorem wpAnyS_done {listed : Array Bool} {a : Act} {w : World} (hr : Region.ready md ops listed = []) (h : Q .normal a w) : wpAnyS P md ops Q S n 0 listed a w := ⟨hr, h⟩
end
end Go.Proofs.YtokeciekncincabGreat
namespace Go.Proofs.YtokeciekncincabGreat
open Go
section
variable {P : Program} {md : Region.Mode} {ops : Array Oper} {Q : Exit → Act → World → Prop} {S : World → Prop} {n : Nat}
theorem skA (i : Nat) {oi : Oper} {fuel : Nat} {listed : Array Bool} {a : Act} {w : World} (hS : S w)
    (h : wpAnyS P md ops Q S n fuel (listed.setIfInBounds i true) (a.put oi.dst undef) w) (hi0 : ops.toList[i]? = some oi := by rfl)
    (hk : (Region.noSelect ops && headB md ops n listed && Region.free md ops listed i && (Region.ready md ops listed).contains i && decide (ops.size ≤ n)) = true := by kernel_rfl)
    (hQ : ∀ c a w, Q (.panic c) (a.put oi.dst undef) w → Q (.panic c) a w := by exact fun _ _ _ h => h) (hw : Region.wanted oi (yielded ops a.tmps) = false := by rfl) : wpAnyS P md ops Q S n (fuel + 1) listed a w := by
  have hi : ops[i]? = some oi := by rw [← hi0, Array.getElem?_toList]
  simp only [Bool.and_eq_true, decide_eq_true_eq] at hk
  obtain ⟨⟨⟨⟨h1, h5⟩, h6⟩, h7⟩, h8⟩ := hk
  exact wpAnyS_firstA hi (Region.noSelect_spec h1) h8 hQ fuel listed a w (headB_spec h5) (Region.free_spec hi h6) (by simpa using h7) (.inr ⟨hw, rfl⟩) hS h
end
end Go.Proofs.YtokeciekncincabGreat
