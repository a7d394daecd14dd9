/-
  What lies in memory while the rows of the graph of conflicts are sorted. No walk.
  No condition.
-/
import Derived.Test.YtegejcmihojhbaaHsGInv
namespace Go.Proofs.Ytegejcmihojhbaa
open Go Go.RowKit

def sortTo (G : List (List Int)) (k : Nat) : List (List Int) := (G.take k).map sortZ ++ G.drop k
theorem sortTo_zero (G : List (List Int)) : sortTo G 0 = G := by simp [sortTo]
theorem sortTo_full (G : List (List Int)) : sortTo G G.length = G.map sortZ := by simp [sortTo]
theorem sortTo_len (G : List (List Int)) (k : Nat) : (sortTo G k).length = G.length := by simp [sortTo]; omega
theorem sortTo_at {G : List (List Int)} {k : Nat} (hk : k < G.length) : (sortTo G k)[k]? = some G[k] := by
  unfold sortTo
  rw [List.getElem?_append_right (by simp; omega)]
  simp [show min k G.length = k by omega]
theorem sortTo_succ {G : List (List Int)} {k : Nat} (hk : k < G.length) : sortTo G (k + 1) = (sortTo G k).set k (sortZ G[k]) := by
  unfold sortTo
  have hl : ((G.take k).map sortZ).length = k := by simp; omega
  rw [List.take_succ_eq_append_getElem hk, List.map_append, List.drop_eq_getElem_cons hk, List.set_append_right _ _ (by omega), hl, Nat.sub_self, List.set_cons_zero]
  simp
theorem sort_done {who : List Int} (hn : who.Nodup) (ts : List TouchD) : (gAcc who (aheadP ts)).map sortZ = graphW who ts := by
  refine List.ext_getElem? fun i => ?_
  by_cases hi : i < who.length
  · have h1 := row_done hn (ts := ts) (List.getElem?_eq_getElem hi)
    unfold graphW
    rw [List.getElem?_map, List.getElem?_map, List.getElem?_eq_getElem hi, List.getElem?_eq_getElem (by rw [gAcc_len]; exact hi)]
    simp only [Option.map_some, Option.some.injEq]
    rw [← h1]
    simp [List.getD_eq_getElem?_getD, show i < (gAcc who (aheadP ts)).length by rw [gAcc_len]; exact hi]
  · rw [List.getElem?_eq_none (by simp [gAcc_len]; omega), List.getElem?_eq_none (by simp [graphW]; omega)]

structure SInv (w : World) (n gb gB D : Nat) (G : List (List Int)) (W : World) : Prop where
  gbox : Bk W gB 26 [.slice (some ⟨gb, 0, none⟩) n n]
  rows : ∃ vs, W.ownsRow 0 28 1 (.slice (some ⟨gb, 0, none⟩) n n) n vs ∧ RowsOk W w.heap.size vs G
  mark : W.heap[D]? = some (.deferred (some []))
  fr : Fr w W Nil
theorem SInv.sort {w W W' : World} {n gb gB D k : Nat} {G : List (List Int)} {vs : List Value} {u : Value} {xs : List Int} (h : SInv w n gb gB D G W)
    (hro : W.ownsRow 0 28 1 (.slice (some ⟨gb, 0, none⟩) n n) n vs) (hrk : RowsOk W w.heap.size vs G) (hu : vs[k]? = some u) (hx : OwnInts W 3 u xs) (hn : NewFrom w.heap.size u)
    (hx' : OwnInts W' 3 u (sortZ xs)) (hf : Fr W W' (fun j => u.ownBlock = some j)) : SInv w n gb gB D (G.set k (sortZ xs)) W' := by
  have hgw := gb_type hro
  obtain ⟨curg, hgw⟩ := hgw
  have hnot : ∀ j o, W.heap[j]? = some o → (∀ c, o ≠ .cells c 3 (0, 0)) → ¬ (u.ownBlock = some j) := by
    intro j o ho hne hj
    obtain ⟨cur, hc⟩ := own_type hx hj
    rw [ho] at hc; cases hc
    exact hne _ rfl
  have hs : vs.set k u = vs := by
    obtain ⟨h1, h2⟩ := List.getElem?_eq_some_iff.1 hu
    subst h2
    exact List.set_getElem_self h1
  refine ⟨h.gbox.fr hf (hnot _ _ h.gbox fun c e => by cases e), ⟨vs, hf.own hro fun j hj => ?_, ?_⟩, (hf.block D (Array.getElem?_eq_some_iff.1 h.mark).1 (hnot _ _ h.mark fun c e => by cases e)).trans h.mark, h.fr.trans hf fun j hj hs => ?_⟩
  · cases hj
    exact hnot _ _ hgw fun c e => by cases e
  · have := hrk.set (S := fun _ => False) hu (hf.mono fun j _ hj => .inl hj) (fun _ _ _ h => h) hx' hn (.inl rfl)
    rwa [hs] at this
  · have := hn j hs; omega
theorem SInv.ret {w W : World} {n gb gB D : Nat} {G : List (List Int)} {o : Obj} (h : SInv w n gb gB D G W) (hD : w.heap.size ≤ D) :
    ∃ vs, (W.putObj D o).ownsRow 0 28 1 (.slice (some ⟨gb, 0, none⟩) n n) n vs ∧ RowsOk (W.putObj D o) w.heap.size vs G ∧ Fr w (W.putObj D o) Nil := by
  obtain ⟨vs, h1, h2⟩ := h.rows
  have hf : Fr W (W.putObj D o) (fun k => k = D) := (Fr.refl W _).grown (grownBy_putObj' W D o) fun k e _ => by cases e; rfl
  obtain ⟨curg, hgw⟩ := gb_type h1
  refine ⟨vs, hf.own h1 fun j hj e => ?_, h2.fr hf fun k cur hc e => ?_, h.fr.trans hf fun j hj e => by omega⟩
  · cases hj; subst e
    rw [h.mark] at hgw; cases hgw
  · subst e
    rw [h.mark] at hc; cases hc
end Go.Proofs.Ytegejcmihojhbaa
