/-
  The document's rows: walks of Get, Delete.
  No condition but sizes.
-/
import Derived.Test.YtjpenaodkfljhaaRfBase
import Derived.Test.YtjpenaodkfljhaaRwRead
namespace Go.Proofs.Ytjpenaodkfljhaa
open Go Go.RowKit

theorem slQ : SlT Try.prog 155 159 3 40 :=
  SlT.mk (z := .agg #[.int .i64 0, .int .i64 0, .slice none 0 0]) Try.underlying155 (by kernel_rfl) (by rfl) (by decide) (by decide)
theorem slI : SlT Try.prog 24 2 1 8 := SlT.mk (z := .int .i64 0) Try.underlying24 (by kernel_rfl) (by rfl) (by decide) (by decide)
theorem slN : SlT Try.prog 23 3 1 8 := SlT.mk (z := .int .i64 0) Try.underlying23 (by kernel_rfl) (by rfl) (by decide) (by decide)
theorem ints_one (xs : List Int) : ∀ u ∈ xs.map (Value.int .i64), u.oneCell' = true := by
  intro u hu
  simp only [List.mem_map] at hu
  obtain ⟨z, _, rfl⟩ := hu
  rfl

def QGetRet (L : List QR) (t k : Int) (w : World) (e : Ending) (w' : World) : Prop :=
  (∃ xs, qget L t k = some xs ∧ ∃ a cap, e = .returned (.tuple #[.slice a xs.length cap, .bool true]) ∧ Cloned xs w (.slice a xs.length cap) w') ∨
  (qget L t k = none ∧ e = .returned (.tuple #[.slice none 0 0, .bool false]) ∧ Fr w w' Nil)
/-- A copy by append onto nil. -/
theorem Cloned.of_app {w w' : World} {xs : List Int} {a : Option Addr} {cap n : Nat} (hn : n = xs.length) (ho : w'.ownsRow 0 2 1 (.slice a n cap) n (xs.map (Value.int .i64))) (hg : w.grownBy w' none)
    (hat : (Value.slice a n cap).ownBlock = none ∨ (Value.slice a n cap).ownBlock = some w.heap.size) : Cloned xs w (.slice a xs.length cap) w' := by
  subst hn
  refine ⟨ho, fun k hk => ?_, (Fr.refl w _).grown hg fun k hk => by cases hk⟩
  rcases hat with h | h <;> rw [h] at hk <;> cases hk
  exact Nat.le_refl _
theorem Fr.app0 {w0 w w' : World} {S : Nat → Prop} (h : Fr w0 w S) (hg : w.grownBy w' (Value.slice none 0 0).ownBlock) : Fr w0 w' S := h.grown hg fun k hk _ => by cases hk
theorem Fr.app {w0 w w' : World} {S : Nat → Prop} {v : Value} (h : Fr w0 w S) (hg : w.grownBy w' v.ownBlock) (hv : ∀ k, v.ownBlock = some k → w0.heap.size ≤ k) : Fr w0 w' S := h.grown hg fun k hk hlt => by have := hv k hk; omega
theorem fresh_of {w : World} {v : Value} (h : v.ownBlock = (Value.slice none 0 0).ownBlock ∨ v.ownBlock = some w.heap.size) : ∀ k, v.ownBlock = some k → w.heap.size ≤ k := by
  intro k hk
  rcases h with h | h <;> rw [h] at hk <;> cases hk
  exact Nat.le_refl _
theorem fresh_of2 {w w2 : World} {v u : Value} (h : v.ownBlock = u.ownBlock ∨ v.ownBlock = some w2.heap.size) (hu : ∀ k, u.ownBlock = some k → w.heap.size ≤ k) (hs : w.heap.size ≤ w2.heap.size) : ∀ k, v.ownBlock = some k → w.heap.size ≤ k := by
  intro k hk
  rcases h with h | h <;> rw [h] at hk
  · exact hu k hk
  · cases hk; exact hs

set_option maxRecDepth 100000 in
set_option maxHeartbeats 400000 in
theorem rget_any {rb : Nat} {N : List Int} {L : List QR} {S : Nat → Prop} (t k : Int) (w : World) (h : RefAt w rb N L S) (hq : QOk N L) :
    Calls Try.prog 101 #[.pointer (some ⟨rb, 0, none⟩), .int .i64 t, .int .i64 k] w (QGetRet L t k w) := by
  have H := Lib.hid h
  have hL : L.length ≤ 1000000 := by have := hq.l; omega
  have Hq := Lib.hid hq
  clear hq
  rcases qat_spec L t k with ⟨h1, h2⟩ | ⟨j, r, h1, h2, h3, h4⟩
  · have H1 := Lib.hid h1
    have HG := Lib.hid (qget_none h2)
    clear h h1 h2
    go_enter Try.func101, Try.ntmps101
    go_wp2_with (go_at_call 102; refine (rat_any t k _ H.out hL).mono ?_; rintro e w' ⟨he, rfl⟩; rw [H1.out] at he; subst he)
    go_ret2
    exact .inr ⟨HG.out, rfl, Fr.refl _ _⟩
  · obtain ⟨nv, lv, g, hr, hgl⟩ := h
    obtain ⟨r0, hr0, rfl⟩ : ∃ r0, g[j]? = some r0 ∧ r0.mod = r := by
      rw [← hgl] at h2
      simpa [qrows, List.getElem?_map, Option.map_eq_some_iff] using h2
    obtain ⟨b, off, cap, hlv, p0, p1, p2⟩ := hr.l.cells hr0
    have q1 := hr.root.cell 1
    have hci := hr.l.cols r0 (List.mem_of_getElem? hr0)
    have hcl : r0.cols.length ≤ 1000000 := Hq.out.cols r0.mod (List.mem_of_getElem? h2)
    obtain ⟨ac, cc, hcv⟩ := hci.shape
    rw [hcv] at p2 hci
    rw [hlv] at q1
    have hjl : j < g.length := (List.getElem?_eq_some_iff.1 hr0).1
    have Hci := Lib.hid hci
    have H1 := Lib.hid h1
    have HG : Hid (qget L t k = some r0.cols) := qget_some h2 h3 h4
    have hgl2 : g.length ≤ 1000000 := by rw [← hgl] at hL; simpa [qrows] using hL
    have hj2 : (j : Int) < (g.length : Int) := by omega
    clear hr h1 h2 h3 h4 hgl hr0 hlv hcv hci p0 p1
    go_enter Try.func101, Try.ntmps101
    go_wp2_with (first
      | (go_at_call 102; refine (rat_any t k _ H.out hL).mono ?_; rintro e w' ⟨he, rfl⟩; rw [H1.out] at he; subst he)
      | (at_builtin; refine wpList_app _ rfl _ _ _ rfl slI (.slice none 0 0) rfl (World.ownsRow_nil _ _ _ _) _ rfl (SlAt.of_ints Hci.out) (ints_one _) (by omega) ?_; intro a2 c2 w2 ho hg hat))
    rw [Nat.zero_add] at ho hat
    have HC := Lib.hid (Cloned.of_app rfl ho hg hat)
    go_ret2
    exact .inl ⟨_, HG.out, a2, c2, by simp, HC.out⟩

/-- What was there, and what is new. -/
def Gr (S : Nat → Prop) (w w' : World) (k : Nat) : Prop := S k ∨ (w.heap.size ≤ k ∧ k < w'.heap.size)
def RefUpd (w : World) (rb : Nat) (N : List Int) (L' : List QR) (S : Nat → Prop) (w' : World) : Prop := RefAt w' rb N L' (Gr S w w') ∧ Fr w w' (fun k => k = rb)
theorem RefG.more {w w' : World} {rb : Nat} {N : List Int} {nv lv : Value} {g : List QRow} {S : Nat → Prop} (h : RefG w' rb N nv lv g S) : RefG w' rb N nv lv g (Gr S w w') :=
  ⟨h.root, h.n, h.l, h.cap, .inl h.inR, fun k hk => ⟨.inl (h.inN k hk).1, (h.inN k hk).2⟩, fun k hk => ⟨.inl (h.inL k hk).1, (h.inL k hk).2⟩, fun r hr k hk => ⟨.inl (h.inC r hr k hk).1, (h.inC r hr k hk).2⟩, fun k hk => hk.elim (h.lt k) (·.2)⟩
theorem RefUpd.same {w w' : World} {rb : Nat} {N : List Int} {L : List QR} {S : Nat → Prop} (h : RefAt w rb N L S) (hf : Fr w w' Nil) : RefUpd w rb N L S w' := by
  obtain ⟨nv, lv, g, h, hL⟩ := h
  exact ⟨⟨nv, lv, g, (h.fr0 hf).more, hL⟩, hf.of_nil⟩
theorem RefG.store {w w3 : World} {rb : Nat} {N : List Int} {nv lv lv' : Value} {g g' : List QRow} {S : Nat → Prop} (h : RefG w rb N nv lv g S) (hf : Fr w w3 Nil) (hl : QL w3 lv' g') (hc : CapOk lv')
    (hb : ∀ k, lv'.ownBlock = some k → w.heap.size ≤ k) (hlt : ∀ k, lv'.ownBlock = some k → k < w3.heap.size) (hin : ∀ r ∈ g', ∀ k, r.cv.ownBlock = some k → (S k ∧ k ≠ rb) ∨ (w.heap.size ≤ k ∧ k < w3.heap.size)) :
    RefUpd w rb N (qrows g') S (w3.setCell ⟨rb, 1, none⟩ lv') := by
  have hrb := h.lt _ h.inR
  have hsz := hf.size
  have hst : Fr w3 (w3.setCell ⟨rb, 1, none⟩ lv') (fun k => k = rb) := Fr.store w3 rb 1 lv'
  have hne : ∀ k, lv'.ownBlock = some k → k ≠ rb := fun k hk => by have := hb k hk; omega
  have hcv : ∀ r ∈ g', ∀ k, r.cv.ownBlock = some k → k ≠ rb := fun r hr k hk => by
    rcases hin r hr k hk with h | h
    · exact h.2
    · omega
  have hs2 : (w3.setCell ⟨rb, 1, none⟩ lv').heap.size = w3.heap.size := World.size_setCell _ _ _
  refine ⟨⟨nv, lv', g', ⟨?_, ?_, ?_, hc, .inl h.inR, ?_, ?_, ?_, ?_⟩, rfl⟩, ?_⟩
  · exact (h.root.fr hf fun h => h).set 1 lv'
  · exact (h.n.fr hf fun _ _ h => h).fr hst fun k hk => (h.inN k hk).2
  · exact hl.fr hst hne hcv
  · exact fun k hk => ⟨.inl (h.inN k hk).1, (h.inN k hk).2⟩
  · exact fun k hk => ⟨.inr ⟨hb k hk, by rw [hs2]; exact hlt k hk⟩, hne k hk⟩
  · exact fun r hr k hk => ⟨(hin r hr k hk).elim (fun h => .inl h.1) (fun h => .inr ⟨h.1, by rw [hs2]; exact h.2⟩), hcv r hr k hk⟩
  · intro k hk
    rcases hk with hk | hk
    · have := h.lt k hk; omega
    · exact hk.2
  · exact (hf.of_nil).transS (hst.mono fun _ _ h => h)

def qdel (L : List QR) (t k : Int) : List QR := if qat L t k = -1 then L else L.eraseIdx (qat L t k).toNat
def qhas (L : List QR) (t k : Int) : Bool := decide (qat L t k ≠ -1)
theorem qrows_erase (g : List QRow) (j : Nat) : qrows (g.take j ++ g.drop (j + 1)) = (qrows g).eraseIdx j := by
  rw [List.eraseIdx_eq_take_drop_succ]
  simp [qrows, List.map_take, List.map_drop]

set_option maxRecDepth 100000 in
set_option maxHeartbeats 1000000 in
theorem rdel_any {rb : Nat} {N : List Int} {L : List QR} {S : Nat → Prop} (t k : Int) (w : World) (h : RefAt w rb N L S) (hq : QOk N L) :
    Calls Try.prog 72 #[.pointer (some ⟨rb, 0, none⟩), .int .i64 t, .int .i64 k] w fun e w' =>
      e = .returned (.tuple #[.bool (qhas L t k), .bool (qhas L t k || decide (0 < qcols N t))]) ∧ RefUpd w rb N (qdel L t k) S w' := by
  have H := Lib.hid h
  have hL : L.length ≤ 1000000 := by have := hq.l; omega
  have hN : N.length ≤ 1000000 := by have := hq.n; omega
  clear hq
  rcases qat_spec L t k with ⟨h1, h2⟩ | ⟨j, r, h1, h2, h3, h4⟩
  · have H1 := Lib.hid h1
    have HD : Hid (qdel L t k = L) := by
      have : qdel L t k = L := by unfold qdel; rw [if_pos h1]
      exact this
    have HH : Hid (qhas L t k = false) := by
      have : qhas L t k = false := by unfold qhas; rw [decide_eq_false_iff_not]; simp [h1]
      exact this
    clear h h1 h2
    go_enter Try.func72, Try.ntmps72
    go_wp2_with (first
      | (go_at_call 102; refine (rat_any t k _ H.out hL).mono ?_; rintro e w' ⟨he, rfl⟩; rw [H1.out] at he; subst he)
      | (go_at_call 89; refine (rcols_any t _ H.out hN).mono ?_; rintro e w' ⟨rfl, rfl⟩))
    go_ret2
    refine ⟨by rw [HH.out]; rfl, ?_⟩
    rw [HD.out]
    exact RefUpd.same H.out (Fr.refl _ _)
  · obtain ⟨nv, lv, g, hr, hgl⟩ := h
    have hjl : j < g.length := by
      have := (List.getElem?_eq_some_iff.1 h2).1
      rw [← hgl] at this
      simpa [qrows] using this
    have HR := Lib.hid hr
    have H1 := Lib.hid h1
    have hgl2 : g.length ≤ 1000000 := by rw [← hgl] at hL; simpa [qrows] using hL
    have hj2 : (j : Int) < (g.length : Int) := by omega
    have HD : Hid (qdel L t k = qrows (g.take j ++ g.drop (j + 1))) := by
      have : qdel L t k = qrows (g.take j ++ g.drop (j + 1)) := by
        unfold qdel
        rw [if_neg (by omega), qrows_erase, hgl, h1]
        rfl
      exact this
    have HH : Hid (qhas L t k = true) := by
      have : qhas L t k = true := by unfold qhas; rw [decide_eq_true_iff]; omega
      exact this
    obtain ⟨a, cap, hlv⟩ := hr.l.sl.shape
    have q1 := hr.root.cell 1
    rw [hlv] at q1
    have hcap : g.length ≤ cap := hr.cap _ _ _ hlv
    have HS := Lib.hid hr.l.sl
    rw [hlv] at HS
    have HC : Hid (∀ r ∈ g, r.cv.oneCell' = true) := fun r hm => (hr.l.cols r hm).one
    clear hr h1 h2 h3 h4 hgl hlv
    have q2 : w.cell? ⟨rb, 1, none⟩ = some (.slice a g.length cap) := q1
    clear q1
    have HT : Hid (SlAt w 3 (.slice a j cap) j (flatQ (g.take j))) := by
      have := HS.out.take (k := j) (c' := cap) (by omega) (fun e => by
        rcases HS.out.2 with ⟨h1, _⟩ | ⟨a', c', h1, _⟩
        · simp only [Value.slice.injEq] at h1; exact h1.2.2
        · subst e; simp at h1)
      rw [flatQ_take] at this
      exact this
    have HO1 : Hid (∀ u ∈ flatQ (g.take j), u.oneCell' = true) := flatQ_one fun r hr => HC.out r (List.mem_of_mem_take hr)
    have HO2 : Hid (∀ u ∈ flatQ (g.drop (j + 1)), u.oneCell' = true) := flatQ_one fun r hr => HC.out r (List.mem_of_mem_drop hr)
    have HX : (cap = j + 1 ∧ g.length = j + 1 ∧ Hid (SlAt w 3 (.slice a 0 0) 0 (flatQ (g.drop (j + 1))))) ∨ (cap ≠ j + 1 ∧ True ∧ Hid (SlAt w 3 (.slice (a.map (·.add ((j + 1) * 3))) (g.length - (j + 1)) (cap - (j + 1))) (g.length - (j + 1)) (flatQ (g.drop (j + 1))))) := by
      have := HS.out.drop (k := j + 1) (by omega) hcap
      rw [flatQ_drop] at this
      by_cases hc1 : cap = j + 1
      · rw [if_pos hc1, show cap - (j + 1) = 0 by omega, show g.length - (j + 1) = 0 by omega] at this
        exact .inl ⟨hc1, by omega, this⟩
      · rw [if_neg hc1] at this
        exact .inr ⟨hc1, trivial, this⟩
    rcases HX with ⟨rfl, hc2, HD2⟩ | ⟨hc1, hc2, HD2⟩
    all_goals
      have Hc2 := Lib.hid hc2
      clear hc2
      go_enter Try.func72, Try.ntmps72
      go_wp2_with (first
        | (go_at_call 102; refine (rat_any t k _ H.out hL).mono ?_; rintro e w' ⟨he, rfl⟩; rw [H1.out] at he; subst he)
        | (at_builtin
           refine wpList_app _ rfl _ _ _ rfl slQ (.slice none 0 0) rfl (World.ownsRow_nil _ _ _ _) _ rfl HT.out HO1.out (by omega) ?_
           intro a2 c2 w2 ho hg hat
           have hf2 := Fr.app0 (Fr.refl w Nil) hg
           have q3 := hf2.cell q2 (fun h => h)
           rw [Nat.zero_add] at ho hat
           have Ho := Lib.hid ho
           have Hat := Lib.hid (fresh_of hat)
           clear ho hat hg)
        | (at_builtin
           refine wpList_app _ rfl _ _ _ rfl slQ (.slice a2 j c2) rfl Ho.out _ rfl (HD2.out.fr0 hf2) HO2.out (by omega) ?_
           intro a3 c3 w3 ho3 hg3 hat3
           have hf3 := Fr.app hf2 hg3 Hat.out
           have hB := HR.out.root.fr hf3 (fun h => h)
           have q4 := hB.cell 1
           have q5 := hB.free 1))
      have Ho3 := Lib.hid ho3
      have Hat3 := Lib.hid (fresh_of2 hat3 Hat.out hf2.size)
      have Hf3 := Lib.hid hf3
      clear ho3 hat3 hf3 hg3 hB q4 q5
      go_ret2
      refine ⟨by rw [HH.out]; rfl, ?_⟩
      rw [HD.out]
      have ho := Ho3.out
      rw [List.nil_append, ← flatQ_append] at ho
      have hmem : ∀ r ∈ g.take j ++ g.drop (j + 1), r ∈ g := fun r hr => by
        rw [List.mem_append] at hr
        exact hr.elim List.mem_of_mem_take List.mem_of_mem_drop
      refine HR.out.store Hf3.out ⟨(SlAt.of_own ho).1.cast ?_ rfl, fun r hr => ((HR.out.l.cols r (hmem r hr)).fr Hf3.out fun _ _ h => h)⟩ (SlAt.of_own ho).2 Hat3.out (fun k hk => (World.ownsRow.lt ho k hk).2) (fun r hr k hk => .inl (HR.out.inC r (hmem r hr) k hk))
      have := Hc2.out
      simp only [List.length_append, List.length_take, List.length_drop]
      omega
end Go.Proofs.Ytjpenaodkfljhaa
