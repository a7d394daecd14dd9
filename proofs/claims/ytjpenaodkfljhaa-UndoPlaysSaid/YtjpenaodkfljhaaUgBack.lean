/-
  The document's log: walks of Back, Forget, Of.
  No condition but sizes.
-/
import Derived.Test.YtjpenaodkfljhaaUgNote
namespace Go.Proofs.Ytjpenaodkfljhaa
open Go Go.RowKit

def DBackRet (lb qb : Nat) (most : Int) (lv : Value) (g : List DEnt) (M : List MTab) (Sq : Nat → Prop) (who : Int) (w : World) (e : Ending) (w' : World) : Prop :=
  (ofL (dmods g) who = [] ∧ e = .returned (.bool false) ∧ Fr w w' Nil) ∨
  (∃ ds x, ofL (dmods g) who = ds ++ [x] ∧ e = .returned (.bool true) ∧ (∃ lv' g', DLogG w' lb most lv' g' ∧ dmods g' = backL (dmods g) who ∧ (∀ j, DHas lb lv' g' j → DHas lb lv g j ∨ w.heap.size ≤ j) ∧ (∀ j, lv'.ownBlock = some j → w.heap.size ≤ j) ∧ (∀ y ∈ g', y ∈ g) ∧
    ∃ S', RefAt w' qb (colsN (undoE M x)) (flatM (undoE M x)) S' ∧ (∀ k, S' k → Sq k ∨ w.heap.size ≤ k) ∧ ∀ k, DHas lb lv' g' k → ¬ S' k) ∧ Fr w w' (fun j => j = lb ∨ j = qb))
theorem dmods_erase (g : List DEnt) (j : Nat) : dmods (g.take j ++ g.drop (j + 1)) = (dmods g).eraseIdx j := by
  rw [List.eraseIdx_eq_take_drop_succ]
  simp [dmods, List.map_take, List.map_drop]
theorem ref_in {w : World} {qb : Nat} {N : List Int} {L : List QR} {S : Nat → Prop} (h : RefAt w qb N L S) : S qb := by
  obtain ⟨nv, lv, g, h, _⟩ := h
  exact h.inR
theorem own_cast {w : World} {base : Nat} {e : TypeId} {size n m : Nat} {v : Value} {xs : List Value} (h : w.ownsRow base e size v n xs) (hn : n = m) : w.ownsRow base e size v m xs := by subst hn; exact h
theorem back_fin {w w1 w3 : World} {lb qb : Nat} {most : Int} {lv lv' : Value} {g g' : List DEnt} {M : List MTab} {Sq : Nat → Prop} {who : Int} {ds : List Ent} {x : Ent} (h0 : DLogG w lb most lv g) (hds : ∀ k, DHas lb lv g k → ¬ Sq k) (h1 : DLogG w1 lb most lv g) (hm : ∀ y ∈ g', y ∈ g) (hb : dmods g' = backL (dmods g) who) (ho : ofL (dmods g) who = ds ++ [x])
    (hu : RefAt w1 qb (colsN (undoE M x)) (flatM (undoE M x)) (Gr Sq w w1)) (hfu : Fr w w1 (fun k => k = qb)) (hf3 : Fr w1 w3 Nil) (how : w3.ownsRow 0 133 5 lv' g'.length (dvals g')) (hat : ∀ k, lv'.ownBlock = some k → w1.heap.size ≤ k) (hq : lb ≠ qb ∧ ∀ k, Gr Sq w w1 k → k ≠ lb) (hlts : ∀ k, Sq k → k < w.heap.size) :
    DBackRet lb qb most lv g M Sq who w (.returned (.bool true)) (w3.setCell ⟨lb, 1, none⟩ lv') := by
  have hlb := h1.root.lt
  have hsz := hfu.size
  have hrow : ∀ k, lv.ownBlock = some k → k < w1.heap.size := fun k hk => (World.ownsRow.lt h1.own k hk).2
  have hlc : ∀ x ∈ g, ∀ k, x.cv.ownBlock = some k → k < w1.heap.size := fun x hx k hk => (h1.ok x hx).own.lt k hk
  obtain ⟨s1, s2⟩ := h1.store (hf3.of_nil) how (fun k hk => by have := hat k hk; omega) (fun y hy => ⟨(h1.ok y (hm y hy)).fr hf3 fun _ _ h => h, fun k hk => ⟨(h1.neC y (hm y hy) k hk).1, fun hr => by have := hat k hr; have := hlc y (hm y hy) k hk; omega⟩⟩)
  have hst : Fr w3 (w3.setCell ⟨lb, 1, none⟩ lv') (fun k => k = lb) := Fr.store w3 lb 1 lv'
  have hf2 : Fr w1 (w3.setCell ⟨lb, 1, none⟩ lv') (fun k => k = lb) := (hf3.of_nil).transS hst
  refine .inr ⟨ds, x, ho, rfl, ⟨lv', g', s1, hb, fun j hj => ?_, fun j hj => by have := hat j hj; omega, hm, Gr Sq w w1, hu.fr hf2 fun k hk e => hq.2 k hk e, fun k hk => hk.imp id fun h => h.1, fun k hk hs => ?_⟩, ?_⟩
  · rcases hj with rfl | hj | ⟨y, hy, hj⟩
    · exact .inl (.inl rfl)
    · exact .inr (by have := hat j hj; omega)
    · exact .inl (.inr (.inr ⟨y, hm y hy, hj⟩))
  · rcases hk with rfl | hk | ⟨y, hy, hk⟩
    · rcases hs with hs | hs
      · exact hds _ (.inl rfl) hs
      · have := h0.root.lt; omega
    · have h5 := hat k hk
      rcases hs with hs | hs
      · have := hlts k hs; omega
      · omega
    · rcases hs with hs | hs
      · exact hds _ (.inr (.inr ⟨y, hm y hy, hk⟩)) hs
      · have := (h0.ok y (hm y hy)).own.lt k hk; omega
  · exact (hfu.mono fun k _ hk => .inr hk).trans hf2 fun k _ hk => .inl hk
set_option maxRecDepth 100000 in
set_option maxHeartbeats 2000000 in
theorem dback_any {lb qb N : Nat} {most : Int} {lv : Value} {g : List DEnt} {M : List MTab} {Sq : Nat → Prop} (who : Int) (w : World) (h : DLogG w lb most lv g) (hr : RefAt w qb (colsN M) (flatM M) Sq) (hd : ∀ k, DHas lb lv g k → ¬ Sq k) (hg : Good M) (hf : Few N M) (hN : N < 1000) (hl : g.length ≤ 100000) :
    Calls Try.prog 69 #[rptr lb, .int .i64 who, rptr qb] w (DBackRet lb qb most lv g M Sq who w) := by
  obtain ⟨a, c, rfl, hc⟩ := h.shape
  have HG := Lib.hid h
  have HR := Lib.hid hr
  have hqb := ref_in hr
  have HD : Hid (∀ k, DHas lb (.slice a g.length c) g k → k ≠ qb) := fun k hk e => hd k hk (by rw [e]; exact hqb)
  have HDS := Lib.hid hd
  clear h hr hd
  rcases back_cases (dmods g) who with ⟨h1, h2, h3⟩ | ⟨A, e, B, h1, h2, h3, h4, h5⟩
  · rw [dmods_len] at h2
    have H1 := Lib.hid h1
    have H2 := Lib.hid h2
    clear h1 h2 h3
    go_enter Try.func69, Try.ntmps69
    go_wp2_with fail
    refine (dlast_any who _ HG.out hl).mono ?_
    rintro x w1 ⟨he, rfl⟩
    rw [H2.out] at he
    subst he
    go_wp2_with fail
    go_ret
    exact .inl ⟨H1.out, rfl, Fr.refl _ _⟩
  · rw [dmods_len] at h3
    obtain ⟨j, hj⟩ : ∃ j, A.length = j := ⟨_, rfl⟩
    have hjl : j < g.length := by
      have := congrArg List.length h1
      rw [dmods_len] at this
      simp at this
      omega
    have hgt := List.getElem?_eq_getElem hjl
    generalize g[j] = r at hgt
    have hmd : r.mod = (who, e) := by
      have h6 : (dmods g)[j]? = some r.mod := by unfold dmods; rw [List.getElem?_map, hgt]; rfl
      rw [h1, List.getElem?_append_right (by omega), show j - A.length = 0 by omega] at h6
      simp at h6
      exact h6.symm
    have hbl : dmods (g.take j ++ g.drop (j + 1)) = backL (dmods g) who := by
      rw [dmods_erase, h4, h1, List.eraseIdx_append_of_length_le (by omega), show j - A.length = 0 by omega]
      rfl
    have HBL := Lib.hid hbl
    have H3 : Hid (lastI (dmods g) who g.length = (j : Int)) := by
      have : lastI (dmods g) who g.length = (j : Int) := by rw [h3, hj]
      exact this
    have H5 := Lib.hid h5
    have HMD := Lib.hid hmd
    have hrm := List.mem_of_getElem? hgt
    have HOK := Lib.hid (HG.out.ok r hrm)
    have HQ : Hid (∀ k, r.cv.ownBlock = some k → k ≠ qb) := fun k hk => HD.out k (.inr (.inr ⟨r, hrm, hk⟩))
    obtain ⟨b, off, cap, hv, p0, p1, p2, p3, p4⟩ := HG.out.cells hgt
    simp only [Value.slice.injEq, true_and] at hv
    obtain ⟨rfl, rfl⟩ := hv
    have hj2 : (j : Int) < (g.length : Int) := by omega
    have q1 := HG.out.root.cell 1
    simp only [List.getElem?_cons_zero, List.getElem?_cons_succ] at q1
    clear h1 h2 h3 h4 h5 hj hgt hmd hbl
    go_enter Try.func69, Try.ntmps69
    go_wp2_with fail
    refine (dlast_any who _ HG.out hl).mono ?_
    rintro x w1 ⟨he, rfl⟩
    rw [H3.out] at he
    subst he
    go_wp2_with fail
    refine (dundo_any r w HR.out hg hf hN HOK.out HQ.out).mono ?_
    rintro x w1 ⟨rfl, hu, hfu⟩
    rw [HMD.out] at hu
    have hG1 := HG.out.fr hfu fun k hk => HD.out k hk
    have HQL : Hid (lb ≠ qb ∧ ∀ k, Gr Sq w w1 k → k ≠ lb) := ⟨HD.out lb (.inl rfl), fun k hk e => by
      subst e
      rcases hk with hk | hk
      · exact HDS.out _ (.inl rfl) hk
      · have := HG.out.root.lt; omega⟩
    have HG1 := Lib.hid hG1
    have HU := Lib.hid hu
    have HFU := Lib.hid hfu
    have q2 := hG1.root.cell 1
    have HS := Lib.hid (SlAt.of_own hG1.own).1
    have HC : Hid (∀ r ∈ g, r.cv.oneCell' = true) := fun r hm => (hG1.ok r hm).ints.one
    simp only [List.getElem?_cons_zero, List.getElem?_cons_succ] at q2
    clear hG1 hu hfu q1 p0 p1 p2 p3 p4
    have HT : Hid (SlAt w1 5 (.slice (some ⟨b, off, none⟩) j c) j (dvals (g.take j))) := by
      have := HS.out.take (k := j) (c' := c) (by omega) (fun e => by cases e)
      rw [dvals_take] at this
      exact this
    have HO1 : Hid (∀ u ∈ dvals (g.take j), u.oneCell' = true) := dvals_one fun r hr => HC.out r (List.mem_of_mem_take hr)
    have HO2 : Hid (∀ u ∈ dvals (g.drop (j + 1)), u.oneCell' = true) := dvals_one fun r hr => HC.out r (List.mem_of_mem_drop hr)
    have HX : (c = j + 1 ∧ g.length = j + 1 ∧ Hid (SlAt w1 5 (.slice (some ⟨b, off, none⟩) 0 0) 0 (dvals (g.drop (j + 1))))) ∨ (c ≠ j + 1 ∧ True ∧ Hid (SlAt w1 5 (.slice (some (Addr.add ⟨b, off, none⟩ ((j + 1) * 5))) (g.length - (j + 1)) (c - (j + 1))) (g.length - (j + 1)) (dvals (g.drop (j + 1))))) := by
      have := HS.out.drop (k := j + 1) (by omega) hc
      rw [dvals_drop] at this
      by_cases hc1 : c = j + 1
      · rw [if_pos hc1, show c - (j + 1) = 0 by omega, show g.length - (j + 1) = 0 by omega] at this
        exact .inl ⟨hc1, by omega, this⟩
      · rw [if_neg hc1] at this
        exact .inr ⟨hc1, trivial, this⟩
    have hjw : wrap64 ((j : Int) + 1) = (j : Int) + 1 := by unfold wrap64; omega
    rcases HX with ⟨hc1, hc2, HD2⟩ | ⟨hc1, hc2, HD2⟩
    · subst hc1
      go_wp2_with (first
        | (at_builtin
           refine wpList_app _ rfl _ _ _ rfl slD (.slice none 0 0) rfl (World.ownsRow_nil _ _ _ _) _ rfl HT.out HO1.out (by omega) ?_
           intro a2 c2 w2 ho hg hat
           have hf2 := Fr.app0 (Fr.refl w1 Nil) hg
           have q3 := hf2.cell q2 (fun h => h)
           rw [Nat.zero_add] at ho hat
           have Ho := Lib.hid ho
           have Hat := Lib.hid (fresh_of hat)
           clear ho hat hg)
        | (at_builtin
           refine wpList_app _ rfl _ _ _ rfl slD (.slice a2 j c2) rfl Ho.out _ rfl (HD2.out.fr0 hf2) HO2.out (by omega) ?_
           intro a3 c3 w3 ho3 hg3 hat3
           have hf3 := Fr.app hf2 hg3 Hat.out
           have hB := HG1.out.root.fr hf3 (fun h => h)
           have q4 := hB.cell 1
           have q5 := hB.free 1))
      have Ho3 := Lib.hid ho3
      have Hat3 := Lib.hid (fresh_of2 hat3 Hat.out hf2.size)
      have Hf3 := Lib.hid hf3
      clear ho3 hat3 hf3 hg3 hB q4 q5
      go_ret
      have ho := Ho3.out
      rw [List.nil_append, ← dvals_append] at ho
      have hmem : ∀ y ∈ g.take j ++ g.drop (j + 1), y ∈ g := fun y hy => by
        rw [List.mem_append] at hy
        exact hy.elim List.mem_of_mem_take List.mem_of_mem_drop
      have hlen : (g.take j ++ g.drop (j + 1)).length = j + (g.length - (j + 1)) := by
        simp only [List.length_append, List.length_take, List.length_drop]; omega
      exact back_fin HG.out HDS.out HG1.out hmem HBL.out H5.out HU.out HFU.out Hf3.out (own_cast ho (by rw [hlen]; omega)) Hat3.out HQL.out (RefAt.lt HR.out)
    · go_wp2_with (first
        | (at_builtin
           refine wpList_app _ rfl _ _ _ rfl slD (.slice none 0 0) rfl (World.ownsRow_nil _ _ _ _) _ rfl HT.out HO1.out (by omega) ?_
           intro a2 c2 w2 ho hg hat
           have hf2 := Fr.app0 (Fr.refl w1 Nil) hg
           have q3 := hf2.cell q2 (fun h => h)
           rw [Nat.zero_add] at ho hat
           have Ho := Lib.hid ho
           have Hat := Lib.hid (fresh_of hat)
           clear ho hat hg)
        | (at_builtin
           refine wpList_app _ rfl _ _ _ rfl slD (.slice a2 j c2) rfl Ho.out _ rfl (HD2.out.fr0 hf2) HO2.out (by omega) ?_
           intro a3 c3 w3 ho3 hg3 hat3
           have hf3 := Fr.app hf2 hg3 Hat.out
           have hB := HG1.out.root.fr hf3 (fun h => h)
           have q4 := hB.cell 1
           have q5 := hB.free 1))
      have Ho3 := Lib.hid ho3
      have Hat3 := Lib.hid (fresh_of2 hat3 Hat.out hf2.size)
      have Hf3 := Lib.hid hf3
      clear ho3 hat3 hf3 hg3 hB q4 q5
      go_ret
      have ho := Ho3.out
      rw [List.nil_append, ← dvals_append] at ho
      have hmem : ∀ y ∈ g.take j ++ g.drop (j + 1), y ∈ g := fun y hy => by
        rw [List.mem_append] at hy
        exact hy.elim List.mem_of_mem_take List.mem_of_mem_drop
      have hlen : (g.take j ++ g.drop (j + 1)).length = j + (g.length - (j + 1)) := by
        simp only [List.length_append, List.length_take, List.length_drop]; omega
      exact back_fin HG.out HDS.out HG1.out hmem HBL.out H5.out HU.out HFU.out Hf3.out (own_cast ho (by rw [hlen])) Hat3.out HQL.out (RefAt.lt HR.out)
end Go.Proofs.Ytjpenaodkfljhaa
