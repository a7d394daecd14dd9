/-
  Regions that draw their order: all operations but the last ones read, or call what lays new blocks alone: walked once, in the order of the text; the last ones come one behind the other.
  No condition.
-/
import Derived.Test.YtgpekgnhbccnoaaGreatPkZb1
import Derived.StillTail
import Derived.Deep.Quiet
import Derived.Deep.QuietTactic
import Derived.BigQuiet
import Derived.Sort.Grow
namespace Go.Proofs.YtgpekgnhbccnoaaGreat
open Go

/-- A world that has come of w by new blocks and draws alone. -/
structure FrW (w : World) where
  to : World
  fr : Fr w to Nil
instance (w : World) : Inhabited (FrW w) := ⟨⟨w, Fr.refl w _⟩⟩
theorem Calls.fr_of {P : Program} {f : FuncId} {args : Array Value} {w : World} {p : FrW w} {v : Value} (h : Calls P f args p.to fun e w' => e = .returned v ∧ Fr p.to w' Nil) :
    Calls P f args p.to fun e w'' => e = .returned v ∧ ∃ q : FrW w, w'' = q.to :=
  h.mono fun _ w' ⟨he, hf⟩ => ⟨he, ⟨w', p.fr.trans0 hf⟩, rfl⟩
theorem FrW.cell {w : World} (p : FrW w) {a : Addr} {v : Value} (h : w.cell? a = some v) : p.to.cell? a = some v := p.fr.cell h fun h => h

/-- A world that has come of w0 by new blocks alone: for regions that are held. -/
def KeptF (w0 w : World) : Prop := Fr w0 w Nil
theorem KeptF.start (w : World) : KeptF w w.drew := (Fr.refl w Nil).drew
theorem KeptF.fr {w0 w : World} (h : KeptF w0 w) : Fr w0 w Nil := h
theorem KeptF.next {w0 w w' : World} (h : KeptF w0 w) (hf : Fr w w' Nil) : KeptF w0 w' := Fr.trans0 h hf
theorem KeptF.cell {w0 : World} {a : Addr} {v : Value} (h : w0.cell? a = some v) : ∀ w, KeptF w0 w → w.cell? a = some v := fun _ hf => Fr.cell hf h fun h => h
/-- A region of reads and such calls. -/
theorem wp_region_new {P : Program} {id : Nat} {Q : Exit → Act → World → Prop} {a : Act} {w : World} {l : List Oper} (hm : P.follows .mixedOrders = true) (hB : Region.lexB .any l.toArray = true)
    (h : wpQuiet P l.toArray (fun w' => ∃ p : FrW w, w' = p.to) (fun a' => ∀ w', (∃ p : FrW w, w' = p.to) → Q .normal a' w') l a) : (Code.region id l.toArray true).wp P Q a w :=
  wp_region_quiet (C := fun w' => ∃ p : FrW w, w' = p.to) hm hB ⟨⟨_, (Fr.refl w Nil).drew⟩, rfl⟩ (by simpa using h)

section
variable {P : Program} {md : Region.Mode} {ops : Array Oper} {C : World → Prop}
/-- f operations are still to come ahead of number n; then L. -/
def headOf (P : Program) (md : Region.Mode) (ops : Array Oper) (C : World → Prop) (n : Nat) (L : Array Bool → Act → Prop) : Nat → Array Bool → Act → Prop
  | 0, listed, a => L listed a
  | f + 1, listed, a => Region.ready md ops listed ≠ [] ∧ ∀ i ∈ Region.ready md ops listed, i < n ∧ qOp P ops C i (headOf P md ops C n L f (listed.setIfInBounds i true)) a
theorem headOf_any {n g : Nat} {L : Array Bool → Act → Prop} {Q : Exit → Act → World → Prop} (hL : ∀ listed a w, C w → L listed a → wpAny P md ops Q g listed a w) (f : Nat) :
    ∀ (listed : Array Bool) (a : Act) (w : World), C w → headOf P md ops C n L f listed a → wpAny P md ops Q (f + g) listed a w := by
  induction f with
  | zero => intro listed a w hw h; rw [Nat.zero_add]; exact hL _ _ _ hw h
  | succ f ih =>
    intro listed a w hw h
    rw [Nat.succ_add]
    exact ⟨fun h0 => absurd h0 h.1, fun i hi => wpOp_of_qOp hw (fun a' w' hw' h' => ih _ a' w' hw' h') (h.2 i hi).2⟩
theorem headOf_take {n i : Nat} {oi : Oper} {v : Value} {L : Array Bool → Act → Prop} (hi : ops[i]? = some oi) (hsel : Region.noSelect ops = true)
    (hs : Region.sinkB md ops n = true) (hc : Region.chainB md ops n = true) (hn : n < ops.size) (hin : i < n) (hdone : ∀ listed a, L listed a → ∀ j ∈ Region.ready md ops listed, n ≤ j) (f : Nat) :
    ∀ (listed : Array Bool) (a : Act), HeadInv md ops n listed → Region.free md ops listed i = true → i ∈ Region.ready md ops listed → YieldsIn P ops C oi v a →
      headOf P md ops C n L f (listed.setIfInBounds i true) (a.put oi.dst v) → headOf P md ops C n L (f + 1) listed a := by
  have key : ∀ (listed : Array Bool) (a : Act), HeadInv md ops n listed →
      (∀ j oj, ops[j]? = some oj → j ≠ i → listed.getD j true = false → (∀ e ∈ oj.after, Region.binds md e = true → e.on ≠ i) → oi.apart ops oj = true) → i ∈ Region.ready md ops listed → YieldsIn P ops C oi v a →
      headOf P md ops C n L f (listed.setIfInBounds i true) (a.put oi.dst v) → headOf P md ops C n L (f + 1) listed a := by
    induction f with
    | zero =>
      intro listed a inv _ hr hy H
      refine ⟨fun h => (by rw [h] at hr; cases hr), fun j hj => ?_⟩
      have hjn : j < n := Nat.lt_of_not_le fun h => tail_waits hs hc hn inv _ i rfl hin (mem_ready.1 hr).1 j h hj
      by_cases e : j = i
      · subst e; exact ⟨hjn, hy.qOp hi H⟩
      · exact absurd (hdone _ _ H j (ready_mono hj e)) (by omega)
    | succ f ih =>
      intro listed a inv hfree hr hy H
      refine ⟨fun h => (by rw [h] at hr; cases hr), fun j hj => ?_⟩
      have hjn : j < n := Nat.lt_of_not_le fun h => tail_waits hs hc hn inv _ i rfl hin (mem_ready.1 hr).1 j h hj
      by_cases e : j = i
      · subst e; exact ⟨hjn, hy.qOp hi H⟩
      · obtain ⟨hun, oj, hoj, hall⟩ := mem_ready.1 hj
        have hno : ∀ x ∈ oj.after, Region.binds md x = true → x.on ≠ i := fun x hx hb he => by
          have h1 := hall x hx hb
          rw [he, getD_both (mem_ready.1 hr).1] at h1
          cases h1
        refine ⟨hjn, qOp_mono (fun a' h3 => ih _ a' (inv.set hj hjn) (fun k ok hk hki hk2 hk3 => hfree k ok hk hki ?_ hk3) (ready_mono hr (Ne.symm e)) h3.1 ?_)
          (qOp_put hoj (hfree j oj hoj e hun hno) (fun cs b => Region.noSelect_spec hsel i oi cs b hi) (fun cs b => Region.noSelect_spec hsel j oj cs b hoj) hy (H.2 j (ready_mono hj e)).2)⟩
        · by_cases hjk : j = k
          · subst hjk; exact hun
          · rwa [getD_set_ne true hjk] at hk2
        · rw [Array.setIfInBounds_comm _ _ e]; exact h3.2
  exact fun listed a inv hf => key listed a inv (Region.free_spec hi hf)
theorem headOf_lex {n g : Nat} {Lq : Act → Prop} (hsel : Region.noSelect ops = true) (hs : Region.sinkB md ops n = true) (hc : Region.chainB md ops n = true) (hn : n < ops.size) (l : List Oper) :
    ∀ (k : Nat) (listed : Array Bool) (a : Act), (∀ j, j < l.length → l[j]? = ops[k + j]?) → k + l.length = n → HeadInv md ops n listed →
    Region.lexHead md ops g l.length k listed = true → wpQuiet P ops C Lq l a →
    headOf P md ops C n (fun listed' a' => Region.seqB md ops g n listed' = true ∧ Lq a') l.length listed a := by
  induction l with
  | nil =>
    intro k listed a _ hk _ hB h
    obtain rfl : k = n := by simpa using hk
    exact ⟨hB, h⟩
  | cons o l ih =>
    intro k listed a hl hk inv hB h
    have h0 : ops[k]? = some o := (hl 0 (by simp)).symm
    simp only [List.length_cons] at hk hB
    simp only [Region.lexHead, Bool.and_eq_true] at hB
    have hr : k ∈ Region.ready md ops listed := by simpa using hB.1.1
    have hst : qOp P ops C k (wpQuiet P ops C Lq l) a := by unfold qOp; rw [h0]; exact h
    obtain ⟨v, hy, hK⟩ := yieldsIn_of_qOp h0 hst
    refine headOf_take h0 hsel hs hc hn (by omega) (fun _ _ hL => seqB_ready hL.1) l.length listed a inv hB.1.2 hr hy (ih (k + 1) _ _ (fun j hj => ?_) (by omega) (inv.set hr (by omega)) hB.2 hK)
    have := hl (j + 1) (by simp; omega)
    simpa [Nat.add_assoc, Nat.add_comm 1 j] using this
end
/-- A region of reads and such calls, its last operations one behind the other. -/
theorem wp_region_tail {P : Program} {id : Nat} {Q : Exit → Act → World → Prop} {a : Act} {w : World} {l : List Oper} (n : Nat) (hm : P.follows .mixedOrders = true) (hB : Region.lexTailB .any l.toArray n = true)
    (h : wpQuiet P l.toArray (fun w' => ∃ p : FrW w, w' = p.to) (fun a' => ∀ w', (∃ p : FrW w, w' = p.to) → wpList P l.toArray Q (l.drop n) a' w') (l.take n) a) : (Code.region id l.toArray true).wp P Q a w := by
  simp only [Region.lexTailB, Bool.and_eq_true, decide_eq_true_eq] at hB
  obtain ⟨⟨⟨⟨hsel, hn⟩, hs⟩, hc⟩, hlex⟩ := hB
  have hnl : n < l.length := by simpa using hn
  have htl : (l.take n).length = n := by simp; omega
  have hdl : (l.drop n).length = l.toArray.size - n := by simp
  refine wp_region_any hm ?_
  have H := headOf_lex (md := .any) (g := l.toArray.size - n) hsel hs hc hn (l.take n) 0 (Array.replicate l.toArray.size false) a
    (fun j hj => by rw [htl] at hj; simp [hj]) (by omega)
    ⟨by simp, fun j oj _ hl => (by rw [getD_replicate_false] at hl; cases hl), fun t _ ht => getD_in (by simpa using ht) (getD_replicate_false _ _)⟩ (by rw [htl]; exact hlex) h
  have H2 := headOf_any (Q := Q) (g := l.toArray.size - n) (fun listed a' w' hw hL => by
    have := wpAny_of_seq (md := .any) (Q' := Q) (l.drop n) n listed a' w' (fun j => by simp [List.getElem?_drop]) (by rw [hdl]; exact hL.1) (hL.2 w' hw)
    rwa [hdl] at this) _ _ _ w.drew (⟨⟨_, (Fr.refl w Nil).drew⟩, rfl⟩ : ∃ p : FrW w, w.drew = p.to) H
  rw [htl, show n + (l.toArray.size - n) = l.toArray.size by omega] at H2
  exact H2
end Go.Proofs.YtgpekgnhbccnoaaGreat
