/-
  The state of the law RowsPlays: the tables and the document's rows, and the old ones, each in memory of its own.
  No condition.
-/
import Derived.Test.YtljgifjokdppgaaRwDoesAll
import Derived.Test.YtljgifjokdppgaaRwCopy
namespace Go.Proofs.Ytljgifjokdppgaa
open Go Go.RowKit

structure Old where
  rb : Nat
  qb : Nat
  M : List MTab
def OldAt (w : World) (o : Old) (X : Nat → Prop) : Prop := Good o.M ∧ Few 100 o.M ∧ ∃ S T, Both w o.rb o.qb o.M S T ∧ ∀ k, S k ∨ T k → X k
def Old.pr (o : Old) : Value := .pointer (some ⟨o.rb, 0, none⟩)
def Old.pq (o : Old) : Value := .pointer (some ⟨o.qb, 0, none⟩)
theorem OldAt.fr {w w' : World} {o : Old} {X U : Nat → Prop} (h : OldAt w o X) (hf : Fr w w' U) (hd : ∀ k, X k → ¬ U k) : OldAt w' o X := by
  obtain ⟨g, f, S, T, h1, h2⟩ := h
  exact ⟨g, f, S, T, h1.fr hf (fun k hk => hd k (h2 k (.inl hk))) (fun k hk => hd k (h2 k (.inr hk))), h2⟩
theorem OldAt.mono {w : World} {o : Old} {X Y : Nat → Prop} (h : OldAt w o X) (hd : ∀ k, X k → Y k) : OldAt w o Y := by
  obtain ⟨g, f, S, T, h1, h2⟩ := h
  exact ⟨g, f, S, T, h1, fun k hk => hd k (h2 k hk)⟩

structure PlayInv (w0 w : World) (rb qb : Nat) (M : List MTab) (S T X : Nat → Prop) (va vb : Value) (ca cb : List Value) (olds : List Old) (k : Nat) : Prop where
  cur : Both w rb qb M S T
  good : Good M
  few : Few k M
  olds : ∀ o ∈ olds, OldAt w o X
  xd : ∀ j, X j → ¬ (S j ∨ T j)
  la : w.ownsRow 0 25 1 va ca.length ca
  lb : w.ownsRow 0 50 1 vb cb.length cb
  da : ∀ j, va.ownBlock = some j → ¬ X j ∧ ¬ (S j ∨ T j) ∧ vb.ownBlock ≠ some j ∧ w0.heap.size ≤ j
  db : ∀ j, vb.ownBlock = some j → ¬ X j ∧ ¬ (S j ∨ T j) ∧ w0.heap.size ≤ j
  x0 : ∀ j, X j → w0.heap.size ≤ j ∧ j < w.heap.size
  s0 : ∀ j, S j ∨ T j → w0.heap.size ≤ j
  fr : Fr w0 w Nil
theorem Both.lt' {w : World} {rb qb : Nat} {M : List MTab} {S T : Nat → Prop} (h : Both w rb qb M S T) : ∀ j, S j ∨ T j → j < w.heap.size := fun j hj => hj.elim (h.rws.lt j) (h.ref.lt j)
theorem PlayInv.fr0 {w0 w w' : World} {rb qb : Nat} {M : List MTab} {S T X : Nat → Prop} {va vb : Value} {ca cb : List Value} {olds : List Old} {k : Nat} (h : PlayInv w0 w rb qb M S T X va vb ca cb olds k) (hf : Fr w w' Nil) : PlayInv w0 w' rb qb M S T X va vb ca cb olds k :=
  ⟨h.cur.fr0 hf, h.good, h.few, fun o ho => (h.olds o ho).fr hf fun _ _ h => h, h.xd, hf.own h.la fun _ _ h => h, hf.own h.lb fun _ _ h => h, h.da, h.db, fun j hj => ⟨(h.x0 j hj).1, Nat.lt_of_lt_of_le (h.x0 j hj).2 hf.size⟩, h.s0, h.fr.trans0 hf⟩
theorem PlayInv.does {w0 w w' : World} {rb qb : Nat} {M M' : List MTab} {S T X : Nat → Prop} {va vb : Value} {ca cb : List Value} {olds : List Old} {k k' : Nat} (h : PlayInv w0 w rb qb M S T X va vb ca cb olds k) (hu : BothUpd w rb qb S T M' w') (hg : Good M' ∧ Few k' M') : ∃ S' T', PlayInv w0 w' rb qb M' S' T' X va vb ca cb olds k' := by
  obtain ⟨S', T', h1, h2, h3, h4⟩ := hu
  have hU : ∀ j, S' j ∨ T' j → (S j ∨ T j) ∨ w.heap.size ≤ j := fun j hj => hj.elim (fun hj => (h2 j hj).imp .inl id) (fun hj => (h3 j hj).imp .inr id)
  have hs := h.fr.size
  refine ⟨S', T', h1, hg.1, hg.2, fun o ho => (h.olds o ho).fr h4 h.xd, fun j hj hs => ?_, h4.own h.la fun j hj => (h.da j hj).2.1, h4.own h.lb fun j hj => (h.db j hj).2.1, fun j hj => ?_, fun j hj => ?_, fun j hj => ⟨(h.x0 j hj).1, Nat.lt_of_lt_of_le (h.x0 j hj).2 h4.size⟩, fun j hj => ?_, h.fr.trans h4 fun j hlt hj => ?_⟩
  · rcases hU j hs with hs | hs
    · exact h.xd j hj hs
    · have := (h.x0 j hj).2; omega
  · have h5 := h.da j hj
    refine ⟨h5.1, fun hs => ?_, h5.2.2⟩
    rcases hU j hs with hs | hs
    · exact h5.2.1 hs
    · have := (World.ownsRow.lt h.la j hj).2; omega
  · have h5 := h.db j hj
    refine ⟨h5.1, fun hs => ?_, h5.2.2⟩
    rcases hU j hs with hs | hs
    · exact h5.2.1 hs
    · have := (World.ownsRow.lt h.lb j hj).2; omega
  · rcases hU j hj with hj | hj
    · exact h.s0 j hj
    · omega
  · have := h.s0 j hj; omega
theorem PlayInv.appA {w0 w w1 w' : World} {rb qb : Nat} {M : List MTab} {S T X : Nat → Prop} {va vb v' : Value} {ca cb ca' : List Value} {olds : List Old} {k : Nat} (h : PlayInv w0 w rb qb M S T X va vb ca cb olds k) (hf : Fr w w1 Nil)
    (ho : w'.ownsRow 0 25 1 v' ca'.length ca') (hg : w1.grownBy w' va.ownBlock) (hat : v'.ownBlock = va.ownBlock ∨ v'.ownBlock = some w1.heap.size) : PlayInv w0 w' rb qb M S T X v' vb ca' cb olds k := by
  have h1 := h.fr0 hf
  have hw : Fr w1 w' (fun j => va.ownBlock = some j) := (Fr.refl _ _).grown hg fun j hj _ => hj
  have hs := h1.fr.size
  have hlt := h1.cur.lt'
  refine ⟨h1.cur.fr hw (fun j hj e => (h1.da j e).2.1 (.inl hj)) (fun j hj e => (h1.da j e).2.1 (.inr hj)), h.good, h.few, fun o ho => (h1.olds o ho).fr hw fun j hj e => (h1.da j e).1 hj, h.xd, ho, hw.own h1.lb fun j hj e => (h1.da j e).2.2.1 hj, fun j hj => ?_, h.db, fun j hj => ⟨(h1.x0 j hj).1, Nat.lt_of_lt_of_le (h1.x0 j hj).2 hw.size⟩, h.s0, h1.fr.trans hw fun j hlt hj => ?_⟩
  · rcases hat with e | e <;> rw [e] at hj
    · exact h.da j hj
    · cases hj
      refine ⟨fun hx => ?_, fun hx => ?_, fun e2 => ?_, hs⟩
      · have := (h1.x0 _ hx).2; omega
      · have := hlt _ hx; omega
      · have := (World.ownsRow.lt h1.lb _ e2).2; omega
  · have := (h1.da j hj).2.2.2; omega
theorem PlayInv.appB {w0 w w1 w' : World} {rb qb : Nat} {M : List MTab} {S T X : Nat → Prop} {va vb v' : Value} {ca cb cb' : List Value} {olds : List Old} {k : Nat} (h : PlayInv w0 w rb qb M S T X va vb ca cb olds k) (hf : Fr w w1 Nil)
    (ho : w'.ownsRow 0 50 1 v' cb'.length cb') (hg : w1.grownBy w' vb.ownBlock) (hat : v'.ownBlock = vb.ownBlock ∨ v'.ownBlock = some w1.heap.size) : PlayInv w0 w' rb qb M S T X va v' ca cb' olds k := by
  have h1 := h.fr0 hf
  have hw : Fr w1 w' (fun j => vb.ownBlock = some j) := (Fr.refl _ _).grown hg fun j hj _ => hj
  have hs := h1.fr.size
  have hlt := h1.cur.lt'
  refine ⟨h1.cur.fr hw (fun j hj e => (h1.db j e).2.1 (.inl hj)) (fun j hj e => (h1.db j e).2.1 (.inr hj)), h.good, h.few, fun o ho => (h1.olds o ho).fr hw fun j hj e => (h1.db j e).1 hj, h.xd, hw.own h1.la fun j hj e => (h1.da j hj).2.2.1 e, ho, fun j hj => ?_, fun j hj => ?_, fun j hj => ⟨(h1.x0 j hj).1, Nat.lt_of_lt_of_le (h1.x0 j hj).2 hw.size⟩, h.s0, h1.fr.trans hw fun j hlt hj => ?_⟩
  · refine ⟨(h.da j hj).1, (h.da j hj).2.1, fun e2 => ?_, (h.da j hj).2.2.2⟩
    rcases hat with e | e
    · exact (h.da j hj).2.2.1 (by rw [← e]; exact e2)
    · rw [e] at e2; cases e2; have := (World.ownsRow.lt h1.la _ hj).2; omega
  · rcases hat with e | e <;> rw [e] at hj
    · exact h.db j hj
    · cases hj
      refine ⟨fun hx => ?_, fun hx => ?_, hs⟩
      · have := (h1.x0 _ hx).2; omega
      · have := hlt _ hx; omega
  · have := (h1.db j hj).2.2; omega
/-- The one at hand is an old one from now on; its copy goes on. -/
theorem PlayInv.copied {w0 w w1 w2 : World} {rb qb rb' qb' : Nat} {M : List MTab} {S T X S' T' : Nat → Prop} {va vb : Value} {ca cb : List Value} {olds : List Old} {k : Nat} (h : PlayInv w0 w rb qb M S T X va vb ca cb olds k) (hk : k ≤ 100)
    (h1 : Rws w1 rb' M S') (o1 : ∀ j, S' j → w.heap.size ≤ j) (f1 : Fr w w1 Nil) (h2 : RefAt w2 qb' (colsN M) (flatM M) T') (o2 : ∀ j, T' j → w1.heap.size ≤ j) (f2 : Fr w1 w2 Nil) :
    PlayInv w0 w2 rb' qb' M S' T' (fun j => X j ∨ S j ∨ T j) va vb ca cb (olds ++ [⟨rb, qb, M⟩]) k := by
  have f := f1.trans0 f2
  have s1 := f1.size
  have hl := h.cur.lt'
  have hN : ∀ j, S' j ∨ T' j → w.heap.size ≤ j := fun j hj => hj.elim (o1 j) (fun hj => Nat.le_trans s1 (o2 j hj))
  have hp := h.fr0 f
  have s0 := h.fr.size
  refine ⟨⟨h1.fr0 f2, h2, fun j hj ht => ?_⟩, h.good, h.few, fun o ho => ?_, fun j hj hs => ?_, hp.la, hp.lb, fun j hj => ?_, fun j hj => ?_, fun j hj => ?_, fun j hj => Nat.le_trans s0 (hN j hj), hp.fr⟩
  · have := h1.lt j hj; have := o2 j ht; omega
  · rw [List.mem_append, List.mem_singleton] at ho
    rcases ho with ho | rfl
    · exact (hp.olds o ho).mono fun j hj => .inl hj
    · exact ⟨h.good, fun Tb hT => Nat.le_trans (h.few Tb hT) hk, S, T, hp.cur, fun j hj => .inr hj⟩
  · have := hN j hs
    rcases hj with hj | hj
    · have := (h.x0 j hj).2; omega
    · have := hl j hj; omega
  · have h5 := h.da j hj
    refine ⟨fun hx => hx.elim h5.1 h5.2.1, fun hs => ?_, h5.2.2⟩
    have := hN j hs; have := (World.ownsRow.lt h.la j hj).2; omega
  · have h5 := h.db j hj
    refine ⟨fun hx => hx.elim h5.1 h5.2.1, fun hs => ?_, h5.2.2⟩
    have := hN j hs; have := (World.ownsRow.lt h.lb j hj).2; omega
  · rcases hj with hj | hj
    · exact ⟨(hp.x0 j hj).1, (hp.x0 j hj).2⟩
    · exact ⟨h.s0 j hj, Nat.lt_of_lt_of_le (hl j hj) f.size⟩
end Go.Proofs.Ytljgifjokdppgaa
