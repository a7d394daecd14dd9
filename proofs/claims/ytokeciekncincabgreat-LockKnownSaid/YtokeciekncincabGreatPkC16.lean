/-
  A region that draws its order, in a round of a range over a function: walked as outside of it.
  No condition but that it defers nothing.
-/
import Derived.Test.YtokeciekncincabGreatPkC6
import Derived.OrdersIn
import Derived.RangeFuncCalls
import Derived.TacticsIn
namespace Go.Proofs.YtokeciekncincabGreat
open Go

section
variable {P : Program} {md : Region.Mode} {ops : Array Oper} {n : Nat} {l : Nat}
/-- It comes out at the end alone. -/
def OnlyEnd (R : Act → World → Prop) : Exit → Act → World → Prop
  | .normal, a, w => R a w
  | _, _, _ => False
theorem onlyEnd_out {R : Act → World → Prop} : ¬ LetsOut (OnlyEnd R) := fun ⟨_, _, h⟩ => h
theorem rows_in {row : String} {args : Array Value} {w : World} {R : Value → World → Prop} (h : Rows P row args w R) : RowsIn (Fence.wide.inRound l) n P row args w R := fun c cs _ => by
  obtain ⟨v, w', r, s⟩ := h c cs
  exact ⟨v, w', r, stepsIn_wide.2 s⟩
theorem oper_in {o : Oper} {a : Act} {w : World} {K K' : Act → World → Prop} {R : Act → World → Prop} {Q : Exit → Act → World → Prop} (hd : ∀ c, o.op ≠ .defer c) (hK : ∀ a w, K a w → K' a w)
    (h : o.wp P a w K (OnlyEnd R)) : o.wpIn (Fence.wide.inRound l) n P a w K' Q := by
  unfold Oper.wp at h
  unfold Oper.wpIn
  refine ⟨fun _ _ => trivial, ?_⟩
  rw [Oper.semAt_eq _ _ _ hd]
  generalize (execOp a.eval o).run P w = r at h ⊢
  cases r with
  | ok x w' =>
    cases x <;> simp only [Oper.upon, Oper.uponIn] at h ⊢ <;>
      first
        | exact hK _ _ h
        | exact ⟨fun e => (by cases e), CallsIn.inRound l (callsIn_wide.2 (h.mono fun e w'' he => by cases e <;> first | exact hK _ _ he | exact he.elim | exact (onlyEnd_out he).elim))⟩
        | exact ⟨fun e => (by cases e), rows_in (h.mono fun _ _ he => hK _ _ he)⟩
        | exact h.elim
  | halt x w' => cases x <;> simp only [Oper.upon, Oper.uponIn] at h ⊢ <;> exact h.elim
def noDefer (ops : Array Oper) : Bool := ops.all fun o => match o.op with | .defer _ => false | _ => true
theorem noDefer_spec (h : noDefer ops = true) {i : Nat} {o : Oper} (hi : ops[i]? = some o) : ∀ c, o.op ≠ .defer c := by
  intro c hc
  have h1 := Array.all_eq_true_iff_forall_mem.1 h o (Array.mem_of_getElem? hi)
  rw [hc] at h1
  cases h1
theorem wpAny_in {R : Act → World → Prop} {Q : Exit → Act → World → Prop} (hd : noDefer ops = true) (hQ : ∀ a w, R a w → Q .normal a w) : ∀ (fuel : Nat) (listed : Array Bool) (a : Act) (w : World), wpAny P md ops (OnlyEnd R) fuel listed a w → wpAnyIn (Fence.wide.inRound l) n P md ops Q fuel listed a w
  | 0, _, _, _, h => ⟨h.1, hQ _ _ h.2⟩
  | fuel + 1, listed, a, w, h => by
    refine ⟨fun h0 => hQ _ _ (h.1 h0), fun i hi => ?_⟩
    have h1 := h.2 i hi
    unfold wpOp at h1
    unfold wpOpIn
    cases ho : ops[i]? with
    | none =>
      rw [ho] at h1
      exact wpAny_in hd hQ fuel _ a w h1
    | some o =>
      rw [ho] at h1
      dsimp only at h1 ⊢
      split
      · rename_i hw
        rw [if_pos hw] at h1
        rcases h1 with h1 | h1
        · exact oper_in (noDefer_spec hd ho) (fun a w => wpAny_in hd hQ fuel _ a w) h1
        · exact (onlyEnd_out h1.2).elim
      · rename_i hw
        rw [if_neg hw] at h1
        exact ⟨fun _ _ => trivial, wpAny_in hd hQ fuel _ _ w h1⟩
/-- A drawn region in a round, whose last operations come behind all others. -/
theorem wpIn_region_sink {id : Nat} {a : Act} {w : World} {Q : Exit → Act → World → Prop} (m : Nat) (S : World → Prop) (hm : P.follows .mixedOrders = true) (hd : noDefer ops = true)
    (h : wpAnyS P .any ops (OnlyEnd (fun a w => Q .normal a w)) S m ops.size (Array.replicate ops.size false) a w.drew) : (Code.region id ops true).wpIn (Fence.wide.inRound l) n P Q a w :=
  wpIn_region_any hm (wpAny_in hd (fun _ _ h => h) _ _ _ _ (wpAny_of_sink _ _ _ _ h))
/-- Two may come up. -/
theorem wpAnyS_two {Q : Exit → Act → World → Prop} {S : World → Prop} {i j : Nat} {oi oj : Oper} {fuel : Nat} {listed : Array Bool} {a : Act} {w : World} (hi0 : ops.toList[i]? = some oi) (hj0 : ops.toList[j]? = some oj) (hr : Region.ready md ops listed = [i, j]) (hin : i < n) (hjn : j < n)
    (hwi : Region.wanted oi (yielded ops a.tmps) = true) (hwj : Region.wanted oj (yielded ops a.tmps) = true)
    (h1 : ∀ K : Act → World → Prop, Shut (∀ a w, S w → wpAnyS P md ops Q S n fuel (listed.setIfInBounds i true) a w → K a w) → oi.wp P a w K Q)
    (h2 : ∀ K : Act → World → Prop, Shut (∀ a w, S w → wpAnyS P md ops Q S n fuel (listed.setIfInBounds j true) a w → K a w) → oj.wp P a w K Q) : wpAnyS P md ops Q S n (fuel + 1) listed a w := by
  have hi : ops[i]? = some oi := by rw [← hi0, Array.getElem?_toList]
  have hj : ops[j]? = some oj := by rw [← hj0, Array.getElem?_toList]
  refine ⟨fun h0 => (by rw [hr] at h0; cases h0), fun m hm => ?_⟩
  rw [hr, List.mem_cons, List.mem_singleton] at hm
  rcases hm with rfl | rfl
  · unfold wpOp
    rw [hi]
    show if Region.wanted oi (yielded ops a.tmps) = true then _ else _
    rw [if_pos hwi]
    exact .inl (h1 _ fun a' w' h3 h4 => ⟨fun h => by omega, fun _ => ⟨h3, h4⟩⟩)
  · unfold wpOp
    rw [hj]
    show if Region.wanted oj (yielded ops a.tmps) = true then _ else _
    rw [if_pos hwj]
    exact .inl (h2 _ fun a' w' h3 h4 => ⟨fun h => by omega, fun _ => ⟨h3, h4⟩⟩)
/-- The last but one. -/
theorem wpAnyS_lastTwo {Q : Exit → Act → World → Prop} {S : World → Prop} {i j : Nat} {oi oj : Oper} {fuel : Nat} {listed : Array Bool} {a : Act} {w : World} (hi0 : ops.toList[i]? = some oi) (hj0 : ops.toList[j]? = some oj) (hr : Region.ready md ops listed = [i]) (hin : n ≤ i) (hr2 : Region.ready md ops (listed.setIfInBounds i true) = [j]) (hd : Region.ready md ops ((listed.setIfInBounds i true).setIfInBounds j true) = [])
    (hwi : Region.wanted oi (yielded ops a.tmps) = true)
    (h1 : ∀ K : Act → World → Prop, Shut (∀ a w, (Region.wanted oj (yielded ops a.tmps) = true ∧ ∀ K : Act → World → Prop, Shut (∀ a w, Q .normal a w → K a w) → oj.wp P a w K Q) → K a w) → oi.wp P a w K Q) : wpAnyS P md ops Q S n (fuel + 2) listed a w := by
  have hi : ops[i]? = some oi := by rw [← hi0, Array.getElem?_toList]
  have hj : ops[j]? = some oj := by rw [← hj0, Array.getElem?_toList]
  refine ⟨fun h0 => (by rw [hr] at h0; cases h0), fun m hm => ?_⟩
  rw [hr, List.mem_singleton] at hm
  subst hm
  unfold wpOp
  rw [hi]
  show if Region.wanted oi (yielded ops a.tmps) = true then _ else _
  rw [if_pos hwi]
  refine .inl (h1 _ fun a' w' hh => ⟨fun _ => ⟨fun h0 => (by rw [hr2] at h0; cases h0), fun m hm => ?_⟩, fun h => by omega⟩)
  rw [hr2, List.mem_singleton] at hm
  subst hm
  unfold wpOp
  rw [hj]
  show if Region.wanted oj (yielded ops a'.tmps) = true then _ else _
  rw [if_pos hh.1]
  exact .inl (hh.2 _ fun a2 w2 h3 => wpAny_done hd h3 _)
end
/-! The same outside of a round. -/
section
variable {P : Program} {md : Region.Mode} {ops : Array Oper} {n : Nat}
theorem rows_inW {row : String} {args : Array Value} {w : World} {R : Value → World → Prop} (h : Rows P row args w R) : RowsIn Fence.wide n P row args w R := fun c cs _ => by
  obtain ⟨v, w', r, s⟩ := h c cs
  exact ⟨v, w', r, stepsIn_wide.2 s⟩
theorem oper_inW {o : Oper} {a : Act} {w : World} {K K' : Act → World → Prop} {R : Act → World → Prop} {Q : Exit → Act → World → Prop} (hd : ∀ c, o.op ≠ .defer c) (hK : ∀ a w, K a w → K' a w)
    (h : o.wp P a w K (OnlyEnd R)) : o.wpIn Fence.wide n P a w K' Q := by
  unfold Oper.wp at h
  unfold Oper.wpIn
  refine ⟨fun _ _ => trivial, ?_⟩
  rw [Oper.semAt_eq _ _ _ hd]
  generalize (execOp a.eval o).run P w = r at h ⊢
  cases r with
  | ok x w' =>
    cases x <;> simp only [Oper.upon, Oper.uponIn] at h ⊢ <;>
      first
        | exact hK _ _ h
        | exact ⟨fun e => (by cases e), callsIn_wide.2 (h.mono fun e w'' he => by cases e <;> first | exact hK _ _ he | exact he.elim | exact (onlyEnd_out he).elim)⟩
        | exact ⟨fun e => (by cases e), rows_inW (h.mono fun _ _ he => hK _ _ he)⟩
        | exact h.elim
  | halt x w' => cases x <;> simp only [Oper.upon, Oper.uponIn] at h ⊢ <;> exact h.elim
theorem wpAny_inW {R : Act → World → Prop} {Q : Exit → Act → World → Prop} (hd : noDefer ops = true) (hQ : ∀ a w, R a w → Q .normal a w) : ∀ (fuel : Nat) (listed : Array Bool) (a : Act) (w : World), wpAny P md ops (OnlyEnd R) fuel listed a w → wpAnyIn Fence.wide n P md ops Q fuel listed a w
  | 0, _, _, _, h => ⟨h.1, hQ _ _ h.2⟩
  | fuel + 1, listed, a, w, h => by
    refine ⟨fun h0 => hQ _ _ (h.1 h0), fun i hi => ?_⟩
    have h1 := h.2 i hi
    unfold wpOp at h1
    unfold wpOpIn
    cases ho : ops[i]? with
    | none =>
      rw [ho] at h1
      exact wpAny_inW hd hQ fuel _ a w h1
    | some o =>
      rw [ho] at h1
      dsimp only at h1 ⊢
      split
      · rename_i hw
        rw [if_pos hw] at h1
        rcases h1 with h1 | h1
        · exact oper_inW (noDefer_spec hd ho) (fun a w => wpAny_inW hd hQ fuel _ a w) h1
        · exact (onlyEnd_out h1.2).elim
      · rename_i hw
        rw [if_neg hw] at h1
        exact ⟨fun _ _ => trivial, wpAny_inW hd hQ fuel _ _ w h1⟩
theorem wpIn_region_sinkW {id : Nat} {a : Act} {w : World} {Q : Exit → Act → World → Prop} (m : Nat) (S : World → Prop) (hm : P.follows .mixedOrders = true) (hd : noDefer ops = true)
    (h : wpAnyS P .any ops (OnlyEnd (fun a w => Q .normal a w)) S m ops.size (Array.replicate ops.size false) a w.drew) : (Code.region id ops true).wpIn Fence.wide n P Q a w :=
  wpIn_region_any hm (wpAny_inW hd (fun _ _ h => h) _ _ _ _ (wpAny_of_sink _ _ _ _ h))
/-- An operation outside of a drawn region, by its rule outside of a round. -/
theorem wpListIn_oper {l : Nat} {rest : List Oper} {o : Oper} {a : Act} {w : World} {Q : Exit → Act → World → Prop} (hg : o.guard = none) (hd : ∀ c, o.op ≠ .defer c)
    (h : ∀ K : Act → World → Prop, Shut (∀ a w, wpListIn (Fence.wide.inRound l) n P ops Q rest a w → K a w) → o.wp P a w K (OnlyEnd fun _ _ => False)) : wpListIn (Fence.wide.inRound l) n P ops Q (o :: rest) a w :=
  wpListIn_plain hg fun _ hK => oper_in hd (fun _ _ h => h) (h _ hK)
theorem wpListIn_operW {rest : List Oper} {o : Oper} {a : Act} {w : World} {Q : Exit → Act → World → Prop} (hg : o.guard = none) (hd : ∀ c, o.op ≠ .defer c)
    (h : ∀ K : Act → World → Prop, Shut (∀ a w, wpListIn Fence.wide n P ops Q rest a w → K a w) → o.wp P a w K (OnlyEnd fun _ _ => False)) : wpListIn Fence.wide n P ops Q (o :: rest) a w :=
  wpListIn_plain hg fun _ hK => oper_inW hd (fun _ _ h => h) (h _ hK)
end
end Go.Proofs.YtokeciekncincabGreat
