/-
  The document's log: walk of Note.
  No condition but sizes.
-/
import Derived.Test.YtjpenaodkfljhaaUgBase
namespace Go.Proofs.Ytjpenaodkfljhaa
open Go Go.RowKit

def noteD (M : List MTab) (most : Int) (L : List (Int × Ent)) (t : Int) : Int := if (mtab M t).1 = 0 then 1 else if most ≤ (L.length : Int) then 2 else 0
theorem dmods_len (g : List DEnt) : (dmods g).length = g.length := List.length_map _
def DUpd (w : World) (lb : Nat) (most : Int) (lv : Value) (g : List DEnt) (L' : List (Int × Ent)) (w' : World) : Prop :=
  ∃ lv' g', DLogG w' lb most lv' g' ∧ dmods g' = L' ∧ (∀ j, DHas lb lv' g' j → DHas lb lv g j ∨ w.heap.size ≤ j) ∧ Fr w w' (fun j => j = lb ∨ lv.ownBlock = some j)
theorem DUpd.same {w w' : World} {lb : Nat} {most : Int} {lv : Value} {g : List DEnt} (h : DLogG w lb most lv g) (hf : Fr w w' Nil) : DUpd w lb most lv g (dmods g) w' :=
  ⟨lv, g, h.fr hf fun _ _ h => h, rfl, fun _ h => .inl h, hf.of_nil⟩
theorem DHas.lt {w : World} {lb : Nat} {most : Int} {lv : Value} {g : List DEnt} (h : DLogG w lb most lv g) {k : Nat} (hk : lv.ownBlock = some k) : k < w.heap.size := (World.ownsRow.lt h.own k hk).2
/-- One more entry. -/
theorem dnote_done {w w1 w3 : World} {lb : Nat} {most : Int} {a a3 : Option Addr} {c c3 : Nat} {g : List DEnt} (e : DEnt) (h : DLogG w lb most (.slice a g.length c) g) (hf1 : Fr w w1 Nil)
    (he : DOk w1 e) (hen : ∀ k, e.cv.ownBlock = some k → w.heap.size ≤ k ∧ k < w1.heap.size)
    (ho : w3.ownsRow 0 133 5 (.slice a3 (g.length + 1) c3) (g.length + 1) (dvals g ++ dvals [e]))
    (hg3 : w1.grownBy w3 (Value.slice a g.length c).ownBlock) (hat : (Value.slice a3 (g.length + 1) c3).ownBlock = (Value.slice a g.length c).ownBlock ∨ (Value.slice a3 (g.length + 1) c3).ownBlock = some w1.heap.size) :
    DUpd w lb most (.slice a g.length c) g (dmods g ++ [e.mod]) (w3.setCell ⟨lb, 1, none⟩ (.slice a3 (g.length + 1) c3)) := by
  have hsz := hf1.size
  have hlb := h.root.lt
  have hf3 : Fr w w3 (fun k => (Value.slice a g.length c).ownBlock = some k) := (hf1.of_nil).grown hg3 fun k hk _ => hk
  have hf13 : Fr w1 w3 (fun k => (Value.slice a g.length c).ownBlock = some k) := (Fr.refl w1 _).grown hg3 fun k hk _ => hk
  have hrow : ∀ k, (Value.slice a g.length c).ownBlock = some k → k < w.heap.size := fun k hk => (World.ownsRow.lt h.own k hk).2
  have hnew : ∀ k, (Value.slice a3 (g.length + 1) c3).ownBlock = some k → (Value.slice a g.length c).ownBlock = some k ∨ k = w1.heap.size := fun k hk => by
    rcases hat with q | q
    · exact .inl (by rw [← q]; exact hk)
    · rw [q] at hk; cases hk; exact .inr rfl
  have hlc : ∀ x ∈ g, ∀ k, x.cv.ownBlock = some k → k < w.heap.size := fun x hx k hk => (h.ok x hx).own.lt k hk
  have hmem : ∀ x ∈ g ++ [e], x ∈ g ∨ x = e := fun x hx => by simpa using hx
  obtain ⟨s1, s2⟩ := h.store hf3 (g' := g ++ [e]) (lv' := .slice a3 (g.length + 1) c3) (by rw [List.length_append, dvals_append]; exact ho)
    (fun k hk => by
      rcases hnew k hk with q | rfl
      · exact h.neL k q
      · omega)
    (fun x hx => by
      rcases hmem x hx with hx | rfl
      · refine ⟨(h.ok x hx).fr hf3 fun k hk hr => (h.neC x hx k hk).2 hr, fun k hk => ⟨(h.neC x hx k hk).1, fun hr => ?_⟩⟩
        rcases hnew k hr with q | rfl
        · exact (h.neC x hx k hk).2 q
        · have := hlc x hx _ hk; omega
      · refine ⟨he.fr hf13 fun k hk hr => by have := (hen k hk).1; have := hrow k hr; omega, fun k hk => ⟨by have := (hen k hk).1; omega, fun hr => ?_⟩⟩
        rcases hnew k hr with q | rfl
        · have := (hen k hk).1; have := hrow k q; omega
        · have := (hen _ hk).2; omega)
  refine ⟨_, _, s1, by simp [dmods], fun j hj => ?_, s2⟩
  rcases hj with rfl | hj | ⟨x, hx, hj⟩
  · exact .inl (.inl rfl)
  · rcases hnew j hj with q | rfl
    · exact .inl (.inr (.inl q))
    · exact .inr hsz
  · rcases hmem x hx with hx | rfl
    · exact .inl (.inr (.inr ⟨x, hx, hj⟩))
    · exact .inr (hen j hj).1

set_option maxRecDepth 100000 in
set_option maxHeartbeats 2000000 in
theorem dnote_any {lb qb N : Nat} {most : Int} {lv : Value} {g : List DEnt} {M : List MTab} {Sq : Nat → Prop} (who t k : Int) (w : World) (h : DLogG w lb most lv g) (hr : RefAt w qb (colsN M) (flatM M) Sq) (hg : Good M) (hf : Few N M) (hN : N < 1000) (hl : g.length ≤ 100000) :
    Calls Try.prog 71 #[rptr lb, .int .i64 who, rptr qb, .int .i64 t, .int .i64 k] w fun e w' => e = .returned (.int .i64 (noteD M most (dmods g) t)) ∧ DUpd w lb most lv g (noteL M most (dmods g) who t k) w' := by
  obtain ⟨a, c, rfl, hc⟩ := h.shape
  have q0 := h.root.cell 0
  have q1 := h.root.cell 1
  have hq := qok_flat hg hf (by omega)
  simp only [List.getElem?_cons_zero, List.getElem?_cons_succ] at q0 q1
  have HQ := Lib.hid hq
  have HG := Lib.hid h
  have HR := Lib.hid hr
  have hNl : (colsN M).length ≤ 1000000 := by have := hq.n; omega
  have hcl := rel_cols M t
  clear h hr hq
  by_cases h0 : (mtab M t).1 = 0
  · have HD : Hid (noteD M most (dmods g) t = 1 ∧ noteL M most (dmods g) who t k = dmods g) := by
      have : noteD M most (dmods g) t = 1 ∧ noteL M most (dmods g) who t k = dmods g := by
        unfold noteD noteL noteE
        rw [if_pos h0, if_pos h0]
        exact ⟨rfl, if_neg (by decide)⟩
      exact this
    rw [h0] at hcl
    have hcl2 : qcols (colsN M) t = 0 := hcl
    have HC := Lib.hid hcl2
    clear hcl hcl2 h0
    go_enter Try.func71, Try.ntmps71
    go_wp2_with fail
    refine (rcols_any t _ HR.out hNl).mono ?_
    rintro e w1 ⟨rfl, rfl⟩
    rw [HC.out]
    go_wp2_with fail
    go_ret
    rw [HD.out.1, HD.out.2]
    exact ⟨rfl, DUpd.same HG.out (Fr.refl _ _)⟩
  · have hcp : (0 : Int) < (mtab M t).1 := by omega
    have hcn : ((((mtab M t).1 : Nat) : Int) == 0) = false := by rw [beq_eq_false_iff_ne]; omega
    by_cases h1 : most ≤ (g.length : Int)
    · have HD : Hid (noteD M most (dmods g) t = 2 ∧ noteL M most (dmods g) who t k = dmods g) := by
        have : noteD M most (dmods g) t = 2 ∧ noteL M most (dmods g) who t k = dmods g := by
          unfold noteD noteL noteE
          rw [if_neg h0, if_neg h0, dmods_len, if_pos h1, if_pos h1]
          exact ⟨rfl, if_neg (by decide)⟩
        exact this
      go_enter Try.func71, Try.ntmps71
      go_wp2_with fail
      refine (rcols_any t _ HR.out hNl).mono ?_
      rintro e w1 ⟨rfl, rfl⟩
      rw [hcl]
      clear hcl h0
      go_wp2_with fail
      go_quiet (fail)
      rename_i nq
      go_wp2_with fail
      go_ret
      rw [HD.out.1, HD.out.2]
      exact ⟨rfl, DUpd.same HG.out (Fr.drewN (Fr.refl _ _) _)⟩
    · have HD : Hid (noteD M most (dmods g) t = 0 ∧ noteL M most (dmods g) who t k = dmods g ++ [(who, entOf M t k)]) := by
        have : noteD M most (dmods g) t = 0 ∧ noteL M most (dmods g) who t k = dmods g ++ [(who, entOf M t k)] := by
          unfold noteD noteL noteE
          rw [if_neg h0, if_neg h0, dmods_len, if_neg h1, if_neg h1]
          exact ⟨rfl, if_pos rfl⟩
        exact this
      have hget : qget (flatM M) t k = mget (mtab M t) k := rel_get M t k
      have HGet := Lib.hid hget
      clear hget
      go_enter Try.func71, Try.ntmps71
      go_wp2_with fail
      refine (rcols_any t _ HR.out hNl).mono ?_
      rintro e w1 ⟨rfl, rfl⟩
      rw [hcl]
      clear hcl h0
      go_wp2_with fail
      go_quiet (fail)
      rename_i nq
      have HFn := Lib.hid (Fr.drewN (Fr.refl w Nil) nq)
      clear q0 q1
      go_wp2_with fail
      refine (rget_any t k _ (HR.out.fr0 HFn.out) HQ.out).mono ?_
      rintro e w2 hgr
      rcases hgr with ⟨xs, h1, a4, c4, rfl, hcl4, hnew4, hf2⟩ | ⟨h1, rfl, hf2⟩
      · have hge : mget (mtab M t) k = some xs := by rw [← HGet.out]; exact h1
        have hln := mget_len hg hge
        have HGE := Lib.hid hge
        clear HGet h1 hge
        have HF2 : Hid (Fr w w2 Nil) := HFn.out.trans0 hf2
        have HDO : Hid (DOk w2 ⟨who, t, k, (.slice a4 xs.length c4), xs, true⟩) := ⟨hcl4, hln⟩
        have HDN : Hid (∀ j, ((.slice a4 xs.length c4) : Value).ownBlock = some j → w.heap.size ≤ j ∧ j < w2.heap.size) := fun j hj => ⟨hnew4 j hj, hcl4.lt j hj⟩
        have hroot := HG.out.root.fr HF2.out fun h => h
        have q1 := hroot.cell 1
        have f1 := (hroot.alloc (.cells #[.int .i64 who, .int .i64 t, .int .i64 k, (.slice a4 xs.length c4), .bool true] 133)).free 1
        have ho0 := HG.out.own
        have HOWN := Lib.hid (Fr.own (HF2.out.alloc (.cells #[.int .i64 who, .int .i64 t, .int .i64 k, (.slice a4 xs.length c4), .bool true] 133)) ho0 fun _ _ h => h)
        have HSL := Lib.hid (sl_dent w2 133 ⟨who, t, k, (.slice a4 xs.length c4), xs, true⟩)
        have HONE : Hid (∀ u ∈ dvals [⟨who, t, k, (.slice a4 xs.length c4), xs, true⟩], u.oneCell' = true) := dvals_one fun e he => by rw [List.mem_singleton.1 he]; rfl
        simp only [List.getElem?_cons_zero, List.getElem?_cons_succ] at q1
        clear hf2 ho0 hroot HFn
        go_wp2_with (at_builtin; refine wpList_app _ rfl _ _ _ rfl slD (.slice a g.length c) rfl HOWN.out _ rfl HSL.out HONE.out (by omega) ?_; intro a3 c3 w3 ho hg3 hat; have hroot3 := ((HG.out.root.fr HF2.out fun h => h).alloc (.cells #[.int .i64 who, .int .i64 t, .int .i64 k, (.slice a4 xs.length c4), .bool true] 133)).fr (S := fun j => (Value.slice a g.length c).ownBlock = some j) ((Fr.refl _ _).grown hg3 fun j hj _ => hj) (fun h => HG.out.neL _ h rfl); have q2 := hroot3.cell 1; have f2 := hroot3.free 1)
        go_ret
        rw [HD.out.1, HD.out.2]
        refine ⟨rfl, ?_⟩
        have hfin := dnote_done ⟨who, t, k, (.slice a4 xs.length c4), xs, true⟩ HG.out (HF2.out.alloc (.cells #[.int .i64 who, .int .i64 t, .int .i64 k, (.slice a4 xs.length c4), .bool true] 133)) (HDO.out.fr ((Fr.refl w2 Nil).alloc _) fun _ _ h => h) (fun j hj => ⟨(HDN.out j hj).1, by have := (HDN.out j hj).2; simp; omega⟩) ho hg3 hat
        rw [show (who, entOf M t k) = (⟨who, t, k, (.slice a4 xs.length c4), xs, true⟩ : DEnt).mod by unfold entOf; rw [HGE.out]; rfl]
        exact hfin
      · have hge : mget (mtab M t) k = none := by rw [← HGet.out]; exact h1
        have HGE := Lib.hid hge
        clear HGet h1 hge
        have HF2 : Hid (Fr w w2 Nil) := HFn.out.trans0 hf2
        have HDO : Hid (DOk w2 ⟨who, t, k, (.slice none 0 0), [], false⟩) := ⟨World.ownsRow_nil _ _ _ _, by simp⟩
        have HDN : Hid (∀ j, ((.slice none 0 0) : Value).ownBlock = some j → w.heap.size ≤ j ∧ j < w2.heap.size) := fun j hj => by cases hj
        have hroot := HG.out.root.fr HF2.out fun h => h
        have q1 := hroot.cell 1
        have f1 := (hroot.alloc (.cells #[.int .i64 who, .int .i64 t, .int .i64 k, (.slice none 0 0), .bool false] 133)).free 1
        have ho0 := HG.out.own
        have HOWN := Lib.hid (Fr.own (HF2.out.alloc (.cells #[.int .i64 who, .int .i64 t, .int .i64 k, (.slice none 0 0), .bool false] 133)) ho0 fun _ _ h => h)
        have HSL := Lib.hid (sl_dent w2 133 ⟨who, t, k, (.slice none 0 0), [], false⟩)
        have HONE : Hid (∀ u ∈ dvals [⟨who, t, k, (.slice none 0 0), [], false⟩], u.oneCell' = true) := dvals_one fun e he => by rw [List.mem_singleton.1 he]; rfl
        simp only [List.getElem?_cons_zero, List.getElem?_cons_succ] at q1
        clear hf2 ho0 hroot HFn
        go_wp2_with (at_builtin; refine wpList_app _ rfl _ _ _ rfl slD (.slice a g.length c) rfl HOWN.out _ rfl HSL.out HONE.out (by omega) ?_; intro a3 c3 w3 ho hg3 hat; have hroot3 := ((HG.out.root.fr HF2.out fun h => h).alloc (.cells #[.int .i64 who, .int .i64 t, .int .i64 k, (.slice none 0 0), .bool false] 133)).fr (S := fun j => (Value.slice a g.length c).ownBlock = some j) ((Fr.refl _ _).grown hg3 fun j hj _ => hj) (fun h => HG.out.neL _ h rfl); have q2 := hroot3.cell 1; have f2 := hroot3.free 1)
        go_ret
        rw [HD.out.1, HD.out.2]
        refine ⟨rfl, ?_⟩
        have hfin := dnote_done ⟨who, t, k, (.slice none 0 0), [], false⟩ HG.out (HF2.out.alloc (.cells #[.int .i64 who, .int .i64 t, .int .i64 k, (.slice none 0 0), .bool false] 133)) (HDO.out.fr ((Fr.refl w2 Nil).alloc _) fun _ _ h => h) (fun j hj => ⟨(HDN.out j hj).1, by have := (HDN.out j hj).2; simp; omega⟩) ho hg3 hat
        rw [show (who, entOf M t k) = (⟨who, t, k, (.slice none 0 0), [], false⟩ : DEnt).mod by unfold entOf; rw [HGE.out]; rfl]
        exact hfin
end Go.Proofs.Ytjpenaodkfljhaa
