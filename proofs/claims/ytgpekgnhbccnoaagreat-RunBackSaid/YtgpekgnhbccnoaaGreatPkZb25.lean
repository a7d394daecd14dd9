/-
  The marks that ranges over functions leave among the deferred calls.
  No condition.
-/
import Derived.RangeFuncNested
import Derived.RangeFuncBound
import Derived.RangeFuncCalls
import Derived.RangeFuncLeaves
import Derived.Laws.EntriesVeiled
import Derived.Test.YtgpekgnhbccnoaaGreatProg
import Derived.Test.YtgpekgnhbccnoaaGreatPkZb1
namespace Go.Proofs.YtgpekgnhbccnoaaGreat
open Go Go.RowKit

/-- The marks that ranges over functions leave among the deferred calls. -/
abbrev markD (D : Nat) : Deferred := { target := .collected D, args := #[] }
theorem leaves_marks {F : Fence} {n : Nat} {fn : Func} {tmps : Array Value} {R : Ending → World → Prop} : ∀ (ds : List Nat) (W : World), ds.Nodup → (∀ D ∈ ds, W.heap[D]? = some (.deferred (some []))) →
    (∀ W', Fr W W' (fun k => k ∈ ds) → ∃ v, (results fn tmps).run Tryz.prog W' = .ok v W' ∧ R (.returned v) W') → LeavesInM F n Tryz.prog fn tmps R (ds.map markD) .returning W
  | [], W, _, _, h => h W (Fr.refl _ _)
  | D :: ds, W, hn, hd, h => by
    obtain ⟨h1, h2⟩ := List.nodup_cons.1 hn
    have hf : Fr W (W.putObj D (.deferred none)) (fun k => k = D) := (Fr.refl W _).grown (grownBy_putObj' W D _) fun k e _ => by cases e; rfl
    refine ⟨by simp, .inl ⟨D, _, rfl, run_takeDeferred (hd D (by simp)), ?_⟩⟩
    refine leaves_marks ds _ h2 (fun D' hD' => ?_) fun W' hf' => h W' ?_
    · have h3 := hd D' (by simp [hD'])
      exact (hf.block D' (Array.getElem?_eq_some_iff.1 h3).1 (fun e => h1 (by rw [← e]; exact hD'))).trans h3
    · exact (hf.mono fun k _ e => by simp [e]).trans hf' fun k _ hk => List.mem_cons_of_mem _ hk
end Go.Proofs.YtgpekgnhbccnoaaGreat
