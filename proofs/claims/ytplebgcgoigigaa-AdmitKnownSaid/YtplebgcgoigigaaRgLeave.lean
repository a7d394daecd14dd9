/-
  The reference's gate (interlockref17): walk of Leave.
  No condition but sizes.
-/
import Derived.Test.YtplebgcgoigigaaRgEnt
namespace Go.Proofs.Ytplebgcgoigigaa
open Go Go.RowKit Go.Maps Go.Shelf

theorem leave_mid {M : List MR} {x : Int} {j : Nat} {r : MR} (hj : M[j]? = some r) (hr : r.1 = x) (hn : (M.map Prod.fst).Nodup) : leaveM M x = M.take j ++ M.drop (j + 1) := by
  obtain ⟨hlt, rfl⟩ := List.getElem?_eq_some_iff.1 hj
  have hs : M = M.take j ++ M[j] :: M.drop (j + 1) := by rw [← List.drop_eq_getElem_cons hlt, List.take_append_drop]
  generalize M[j] = r at *
  generalize M.take j = A at *
  generalize M.drop (j + 1) = C at *
  subst hs
  rw [List.map_append, List.map_cons] at hn
  obtain ⟨_, h2, h3⟩ := List.nodup_append.1 hn
  rw [List.nodup_cons] at h2
  unfold leaveM
  rw [List.filter_append, List.filter_cons]
  have hA : (A.map Prod.fst).contains x = false := by
    rw [← Bool.not_eq_true, List.contains_iff_mem]
    intro h
    exact h3 x h x (by rw [← hr]; simp) rfl
  have hC : (C.map Prod.fst).contains x = false := by
    rw [← Bool.not_eq_true, List.contains_iff_mem]
    intro h
    rw [← hr] at h
    exact h2.1 h
  rw [filter_none hA, filter_none hC, if_neg (by simp [hr])]
theorem own_cast {w : World} {e : TypeId} {v : Value} {n n' : Nat} {xs : List Value} (h : w.ownsRow 0 e 5 v n xs) (hn : n = n') : w.ownsRow 0 e 5 v n' xs := hn ▸ h
theorem RFr.app0 {w0 w w' : World} {S : Nat → Prop} (h : Fr w0 w S) (hg : w.grownBy w' (Value.slice none 0 0).ownBlock) : Fr w0 w' S := h.grown hg fun k hk _ => by cases hk
theorem RFr.app {w0 w w' : World} {S : Nat → Prop} {v : Value} (h : Fr w0 w S) (hg : w.grownBy w' v.ownBlock) (hv : ∀ k, v.ownBlock = some k → w0.heap.size ≤ k) : Fr w0 w' S := h.grown hg fun k hk hlt => by have := hv k hk; omega
theorem rfresh_of {w : World} {v : Value} (h : v.ownBlock = (Value.slice none 0 0).ownBlock ∨ v.ownBlock = some w.heap.size) : ∀ k, v.ownBlock = some k → w.heap.size ≤ k := by
  intro k hk
  rcases h with h | h <;> rw [h] at hk <;> cases hk
  exact Nat.le_refl _
theorem rfresh_of2 {w w2 : World} {v u : Value} (h : v.ownBlock = u.ownBlock ∨ v.ownBlock = some w2.heap.size) (hu : ∀ k, u.ownBlock = some k → w.heap.size ≤ k) (hs : w.heap.size ≤ w2.heap.size) : ∀ k, v.ownBlock = some k → w.heap.size ≤ k := by
  intro k hk
  rcases h with h | h <;> rw [h] at hk
  · exact hu k hk
  · cases hk; exact hs

set_option maxRecDepth 100000 in
set_option maxHeartbeats 2000000 in
theorem rleave_any {B rb : Nat} {c : CapD} {M : List MR} {lv : Value} (x : Int) (w : World) (h : RG B w rb c M lv) (hi : Inv c M) (hl : M.length ≤ 100000) :
    Calls Try.prog 24 #[.pointer (some ⟨rb, 0, none⟩), .int .i64 x] w fun e w' => e = .returned (.int .i64 (leaveC M x)) ∧ RGat B w' rb c (leaveM M x) ∧ Fr w w' (fun k => k = rb ∨ lv.ownBlock = some k) := by
  obtain ⟨a, cap, hlv⟩ := h.sl.shape
  subst hlv
  have H := Lib.hid h
  rcases mat_spec M x with ⟨h1, h2⟩ | ⟨j, r, h1, hj, hrx, h2⟩
  · have H1 := Lib.hid h1
    have HR : Hid (leaveC M x = 5 ∧ leaveM M x = M) := by
      have : leaveC M x = 5 ∧ leaveM M x = M := ⟨by unfold leaveC; rw [h2]; rfl, leave_none h2⟩
      exact this
    clear h h1 h2 hi
    go_enter Try.func24, Try.ntmps24
    go_wp2_with (go_at_call 28; refine (rgat_any x _ ⟨_, H.out⟩ (by omega)).mono ?_; rintro e w' ⟨he, rfl⟩; rw [H1.out] at he; subst he)
    go_ret
    exact ⟨by rw [HR.out.1]; rfl, by rw [HR.out.2]; exact ⟨_, H.out⟩, (Fr.refl _ _).of_nil⟩
  · have hr := h
    have hjl : j < M.length := (List.getElem?_eq_some_iff.1 hj).1
    have HGr := Lib.hid hr
    have H1 := Lib.hid h1
    have hj2 : (j : Int) < (M.length : Int) := by omega
    have HR : Hid (leaveC M x = 0 ∧ leaveM M x = M.take j ++ M.drop (j + 1)) := by
      have : leaveC M x = 0 ∧ leaveM M x = M.take j ++ M.drop (j + 1) := ⟨by unfold leaveC; rw [h2]; rfl, leave_mid hj hrx hi.keys⟩
      exact this
    have q3 := hr.root.cell 3
    simp only [List.getElem?_cons_zero, List.getElem?_cons_succ] at q3
    have hcap : M.length ≤ cap := hr.cap _ _ _ rfl
    have HS := Lib.hid hr.sl
    clear h hr h1 h2 hj hrx hi
    have HT : Hid (SlAt w 5 (.slice a j cap) j (flatM (M.take j))) := by
      have := HS.out.take (k := j) (c' := cap) (by omega) (fun e => by
        rcases HS.out.2 with ⟨h1, _⟩ | ⟨a', c', h1, _⟩
        · simp only [Value.slice.injEq] at h1; exact h1.2.2
        · subst e; simp at h1)
      rw [flatM, (flat_parts (f := vals5) (n := 5) (fun _ => rfl) (by omega)).1] at this
      exact this
    have HX : (cap = j + 1 ∧ M.length = j + 1 ∧ Hid (SlAt w 5 (.slice a 0 0) 0 (flatM (M.drop (j + 1))))) ∨ (cap ≠ j + 1 ∧ True ∧ Hid (SlAt w 5 (.slice (a.map (·.add ((j + 1) * 5))) (M.length - (j + 1)) (cap - (j + 1))) (M.length - (j + 1)) (flatM (M.drop (j + 1))))) := by
      have := HS.out.drop (k := j + 1) (by omega) hcap
      rw [flatM, (flat_parts (f := vals5) (n := 5) (fun _ => rfl) (by omega)).2] at this
      by_cases hc1 : cap = j + 1
      · rw [if_pos hc1, show cap - (j + 1) = 0 by omega, show M.length - (j + 1) = 0 by omega] at this
        exact .inl ⟨hc1, by omega, this⟩
      · rw [if_neg hc1] at this
        exact .inr ⟨hc1, trivial, this⟩
    rcases HX with ⟨rfl, hc2, HD2⟩ | ⟨hc1, hc2, HD2⟩
    all_goals
      have Hc2 := Lib.hid hc2
      clear hc2
      go_enter Try.func24, Try.ntmps24
      go_wp2_with (first
        | (go_at_call 28; refine (rgat_any x _ ⟨_, H.out⟩ (by omega)).mono ?_; rintro e w' ⟨he, rfl⟩; rw [H1.out] at he; subst he)
        | (at_builtin
           refine wpList_app _ rfl _ _ _ rfl slR (.slice none 0 0) rfl (World.ownsRow_nil _ _ _ _) _ rfl HT.out (flatM_one _) (by omega) ?_
           intro a2 c2 w2 ho hg hat
           have hf2 := RFr.app0 (Fr.refl w Nil) hg
           have q4 := hf2.cell q3 (fun h => h)
           rw [Nat.zero_add] at ho hat
           have Ho := Lib.hid ho
           have Hat := Lib.hid (rfresh_of hat)
           clear ho hat hg)
        | (at_builtin
           refine wpList_app _ rfl _ _ _ rfl slR (.slice a2 j c2) rfl Ho.out _ rfl (HD2.out.fr0 hf2) (flatM_one _) (by omega) ?_
           intro a3 c3 w3 ho3 hg3 hat3
           have hf3 := RFr.app hf2 hg3 Hat.out
           have hB := HGr.out.root.fr hf3 (fun h => h)
           have q5 := hB.cell 3
           have q6 := hB.free 3))
      have Ho3 := Lib.hid ho3
      have Hat3 := Lib.hid (rfresh_of2 hat3 Hat.out hf2.size)
      have Hf3 := Lib.hid hf3
      clear ho3 hat3 hf3 hg3 hB q5 q6
      go_ret
      have ho := Ho3.out
      rw [List.nil_append, ← flatM_app] at ho
      have hst := HGr.out.store (M' := M.take j ++ M.drop (j + 1)) Hf3.out.of_nil (own_cast ho (by
        rw [List.length_append, List.length_take, List.length_drop]
        have := Hc2.out
        omega)) (fun k hk => .inr (Hat3.out k hk))
      exact ⟨by rw [HR.out.1]; rfl, by rw [HR.out.2]; exact hst.1, hst.2⟩
end Go.Proofs.Ytplebgcgoigigaa
