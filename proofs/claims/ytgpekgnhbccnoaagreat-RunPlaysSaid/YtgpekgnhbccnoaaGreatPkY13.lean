/-
  The document's rows: walks of Get, Delete.
  No condition but sizes.
  The document's rows: walk of Put.
  No condition but sizes.
-/
import Derived.Test.YtgpekgnhbccnoaaGreatPkY12
import Derived.Test.YtgpekgnhbccnoaaGreatPkY8
namespace Go.Proofs.YtgpekgnhbccnoaaGreat
open Go Go.RowKit

theorem slQ : SlT Tryz.prog 121 130 3 40 :=
  SlT.mk (z := .agg #[.int .i64 0, .int .i64 0, .slice none 0 0]) Tryz.underlying121 (by kernel_rfl) (by rfl) (by decide) (by decide)
theorem slI : SlT Tryz.prog 24 2 1 8 := SlT.mk (z := .int .i64 0) Tryz.underlying24 (by kernel_rfl) (by rfl) (by decide) (by decide)
theorem slN : SlT Tryz.prog 23 3 1 8 := SlT.mk (z := .int .i64 0) Tryz.underlying23 (by kernel_rfl) (by rfl) (by decide) (by decide)
theorem ints_one (xs : List Int) : ∀ u ∈ xs.map (Value.int .i64), u.oneCell' = true := by
  intro u hu
  simp only [List.mem_map] at hu
  obtain ⟨z, _, rfl⟩ := hu
  rfl

def QGetRet (L : List QR) (t k : Int) (w : World) (e : Ending) (w' : World) : Prop :=
  (∃ xs, qget L t k = some xs ∧ ∃ a cap, e = .returned (.tuple #[.slice a xs.length cap, .bool true]) ∧ Cloned xs w (.slice a xs.length cap) w') ∨
  (qget L t k = none ∧ e = .returned (.tuple #[.slice none 0 0, .bool false]) ∧ Fr w w' Nil)
/-- A copy by append onto nil. -/
theorem Cloned.of_app {w w' : World} {xs : List Int} {a : Option Addr} {cap n : Nat} (hn : n = xs.length) (ho : w'.ownsRow 0 2 1 (.slice a n cap) n (xs.map (Value.int .i64))) (hg : w.grownBy w' none)
    (hat : (Value.slice a n cap).ownBlock = none ∨ (Value.slice a n cap).ownBlock = some w.heap.size) : Cloned xs w (.slice a xs.length cap) w' := by
  subst hn
  refine ⟨ho, fun k hk => ?_, (Fr.refl w _).grown hg fun k hk => by cases hk⟩
  rcases hat with h | h <;> rw [h] at hk <;> cases hk
  exact Nat.le_refl _
theorem Fr.app0 {w0 w w' : World} {S : Nat → Prop} (h : Fr w0 w S) (hg : w.grownBy w' (Value.slice none 0 0).ownBlock) : Fr w0 w' S := h.grown hg fun k hk _ => by cases hk
theorem Fr.app {w0 w w' : World} {S : Nat → Prop} {v : Value} (h : Fr w0 w S) (hg : w.grownBy w' v.ownBlock) (hv : ∀ k, v.ownBlock = some k → w0.heap.size ≤ k) : Fr w0 w' S := h.grown hg fun k hk hlt => by have := hv k hk; omega
theorem fresh_of {w : World} {v : Value} (h : v.ownBlock = (Value.slice none 0 0).ownBlock ∨ v.ownBlock = some w.heap.size) : ∀ k, v.ownBlock = some k → w.heap.size ≤ k := by
  intro k hk
  rcases h with h | h <;> rw [h] at hk <;> cases hk
  exact Nat.le_refl _
theorem fresh_of2 {w w2 : World} {v u : Value} (h : v.ownBlock = u.ownBlock ∨ v.ownBlock = some w2.heap.size) (hu : ∀ k, u.ownBlock = some k → w.heap.size ≤ k) (hs : w.heap.size ≤ w2.heap.size) : ∀ k, v.ownBlock = some k → w.heap.size ≤ k := by
  intro k hk
  rcases h with h | h <;> rw [h] at hk
  · exact hu k hk
  · cases hk; exact hs

set_option maxRecDepth 100000 in
set_option maxHeartbeats 400000 in
theorem rget_any {rb : Nat} {N : List Int} {L : List QR} {S : Nat → Prop} (t k : Int) (w : World) (h : RefAt w rb N L S) (hq : QOk N L) :
    Calls Tryz.prog 59 #[.pointer (some ⟨rb, 0, none⟩), .int .i64 t, .int .i64 k] w (QGetRet L t k w) := by
  have H := Lib.hid h
  have hL : L.length ≤ 1000000 := by have := hq.l; omega
  have Hq := Lib.hid hq
  clear hq
  rcases qat_spec L t k with ⟨h1, h2⟩ | ⟨j, r, h1, h2, h3, h4⟩
  · have H1 := Lib.hid h1
    have HG := Lib.hid (qget_none h2)
    clear h h1 h2
    go_enter Tryz.func59, Tryz.ntmps59
    go_wp2_with (go_at_call 97; refine (rat_any t k _ H.out hL).mono ?_; rintro e w' ⟨he, rfl⟩; rw [H1.out] at he; subst he)
    go_ret2
    exact .inr ⟨HG.out, rfl, Fr.refl _ _⟩
  · obtain ⟨nv, lv, g, hr, hgl⟩ := h
    obtain ⟨r0, hr0, rfl⟩ : ∃ r0, g[j]? = some r0 ∧ r0.mod = r := by
      rw [← hgl] at h2
      simpa [qrows, List.getElem?_map, Option.map_eq_some_iff] using h2
    obtain ⟨b, off, cap, hlv, p0, p1, p2⟩ := hr.l.cells hr0
    have q1 := hr.root.cell 1
    have hci := hr.l.cols r0 (List.mem_of_getElem? hr0)
    have hcl : r0.cols.length ≤ 1000000 := Hq.out.cols r0.mod (List.mem_of_getElem? h2)
    obtain ⟨ac, cc, hcv⟩ := hci.shape
    rw [hcv] at p2 hci
    rw [hlv] at q1
    have hjl : j < g.length := (List.getElem?_eq_some_iff.1 hr0).1
    have Hci := Lib.hid hci
    have H1 := Lib.hid h1
    have HG : Hid (qget L t k = some r0.cols) := qget_some h2 h3 h4
    have hgl2 : g.length ≤ 1000000 := by rw [← hgl] at hL; simpa [qrows] using hL
    have hj2 : (j : Int) < (g.length : Int) := by omega
    clear hr h1 h2 h3 h4 hgl hr0 hlv hcv hci p0 p1
    go_enter Tryz.func59, Tryz.ntmps59
    go_wp2_with (first
      | (go_at_call 97; refine (rat_any t k _ H.out hL).mono ?_; rintro e w' ⟨he, rfl⟩; rw [H1.out] at he; subst he)
      | (at_builtin; refine wpList_app _ rfl _ _ _ rfl slI (.slice none 0 0) rfl (World.ownsRow_nil _ _ _ _) _ rfl (SlAt.of_ints Hci.out) (ints_one _) (by omega) ?_; intro a2 c2 w2 ho hg hat))
    rw [Nat.zero_add] at ho hat
    have HC := Lib.hid (Cloned.of_app rfl ho hg hat)
    go_ret2
    exact .inl ⟨_, HG.out, a2, c2, by simp, HC.out⟩

/-- What was there, and what is new. -/
def Gr (S : Nat → Prop) (w w' : World) (k : Nat) : Prop := S k ∨ (w.heap.size ≤ k ∧ k < w'.heap.size)
def RefUpd (w : World) (rb : Nat) (N : List Int) (L' : List QR) (S : Nat → Prop) (w' : World) : Prop := RefAt w' rb N L' (Gr S w w') ∧ Fr w w' (fun k => k = rb)
theorem RefG.more {w w' : World} {rb : Nat} {N : List Int} {nv lv : Value} {g : List QRow} {S : Nat → Prop} (h : RefG w' rb N nv lv g S) : RefG w' rb N nv lv g (Gr S w w') :=
  ⟨h.root, h.n, h.l, h.cap, .inl h.inR, fun k hk => ⟨.inl (h.inN k hk).1, (h.inN k hk).2⟩, fun k hk => ⟨.inl (h.inL k hk).1, (h.inL k hk).2⟩, fun r hr k hk => ⟨.inl (h.inC r hr k hk).1, (h.inC r hr k hk).2⟩, fun k hk => hk.elim (h.lt k) (·.2)⟩
theorem RefUpd.same {w w' : World} {rb : Nat} {N : List Int} {L : List QR} {S : Nat → Prop} (h : RefAt w rb N L S) (hf : Fr w w' Nil) : RefUpd w rb N L S w' := by
  obtain ⟨nv, lv, g, h, hL⟩ := h
  exact ⟨⟨nv, lv, g, (h.fr0 hf).more, hL⟩, hf.of_nil⟩
theorem RefG.store {w w3 : World} {rb : Nat} {N : List Int} {nv lv lv' : Value} {g g' : List QRow} {S : Nat → Prop} (h : RefG w rb N nv lv g S) (hf : Fr w w3 Nil) (hl : QL w3 lv' g') (hc : CapOk lv')
    (hb : ∀ k, lv'.ownBlock = some k → w.heap.size ≤ k) (hlt : ∀ k, lv'.ownBlock = some k → k < w3.heap.size) (hin : ∀ r ∈ g', ∀ k, r.cv.ownBlock = some k → (S k ∧ k ≠ rb) ∨ (w.heap.size ≤ k ∧ k < w3.heap.size)) :
    RefUpd w rb N (qrows g') S (w3.setCell ⟨rb, 1, none⟩ lv') := by
  have hrb := h.lt _ h.inR
  have hsz := hf.size
  have hst : Fr w3 (w3.setCell ⟨rb, 1, none⟩ lv') (fun k => k = rb) := Fr.store w3 rb 1 lv'
  have hne : ∀ k, lv'.ownBlock = some k → k ≠ rb := fun k hk => by have := hb k hk; omega
  have hcv : ∀ r ∈ g', ∀ k, r.cv.ownBlock = some k → k ≠ rb := fun r hr k hk => by
    rcases hin r hr k hk with h | h
    · exact h.2
    · omega
  have hs2 : (w3.setCell ⟨rb, 1, none⟩ lv').heap.size = w3.heap.size := World.size_setCell _ _ _
  refine ⟨⟨nv, lv', g', ⟨?_, ?_, ?_, hc, .inl h.inR, ?_, ?_, ?_, ?_⟩, rfl⟩, ?_⟩
  · exact (h.root.fr hf fun h => h).set 1 lv'
  · exact (h.n.fr hf fun _ _ h => h).fr hst fun k hk => (h.inN k hk).2
  · exact hl.fr hst hne hcv
  · exact fun k hk => ⟨.inl (h.inN k hk).1, (h.inN k hk).2⟩
  · exact fun k hk => ⟨.inr ⟨hb k hk, by rw [hs2]; exact hlt k hk⟩, hne k hk⟩
  · exact fun r hr k hk => ⟨(hin r hr k hk).elim (fun h => .inl h.1) (fun h => .inr ⟨h.1, by rw [hs2]; exact h.2⟩), hcv r hr k hk⟩
  · intro k hk
    rcases hk with hk | hk
    · have := h.lt k hk; omega
    · exact hk.2
  · exact (hf.of_nil).transS (hst.mono fun _ _ h => h)

def qdel (L : List QR) (t k : Int) : List QR := if qat L t k = -1 then L else L.eraseIdx (qat L t k).toNat
def qhas (L : List QR) (t k : Int) : Bool := decide (qat L t k ≠ -1)
theorem qrows_erase (g : List QRow) (j : Nat) : qrows (g.take j ++ g.drop (j + 1)) = (qrows g).eraseIdx j := by
  rw [List.eraseIdx_eq_take_drop_succ]
  simp [qrows, List.map_take, List.map_drop]

set_option maxRecDepth 100000 in
set_option maxHeartbeats 1000000 in
theorem rdel_any {rb : Nat} {N : List Int} {L : List QR} {S : Nat → Prop} (t k : Int) (w : World) (h : RefAt w rb N L S) (hq : QOk N L) :
    Calls Tryz.prog 61 #[.pointer (some ⟨rb, 0, none⟩), .int .i64 t, .int .i64 k] w fun e w' =>
      e = .returned (.tuple #[.bool (qhas L t k), .bool (qhas L t k || decide (0 < qcols N t))]) ∧ RefUpd w rb N (qdel L t k) S w' := by
  have H := Lib.hid h
  have hL : L.length ≤ 1000000 := by have := hq.l; omega
  have hN : N.length ≤ 1000000 := by have := hq.n; omega
  clear hq
  rcases qat_spec L t k with ⟨h1, h2⟩ | ⟨j, r, h1, h2, h3, h4⟩
  · have H1 := Lib.hid h1
    have HD : Hid (qdel L t k = L) := by
      have : qdel L t k = L := by unfold qdel; rw [if_pos h1]
      exact this
    have HH : Hid (qhas L t k = false) := by
      have : qhas L t k = false := by unfold qhas; rw [decide_eq_false_iff_not]; simp [h1]
      exact this
    clear h h1 h2
    go_enter Tryz.func61, Tryz.ntmps61
    go_wp2_with (first
      | (go_at_call 97; refine (rat_any t k _ H.out hL).mono ?_; rintro e w' ⟨he, rfl⟩; rw [H1.out] at he; subst he)
      | (go_at_call 88; refine (rcols_any t _ H.out hN).mono ?_; rintro e w' ⟨rfl, rfl⟩))
    go_ret2
    refine ⟨by rw [HH.out]; rfl, ?_⟩
    rw [HD.out]
    exact RefUpd.same H.out (Fr.refl _ _)
  · obtain ⟨nv, lv, g, hr, hgl⟩ := h
    have hjl : j < g.length := by
      have := (List.getElem?_eq_some_iff.1 h2).1
      rw [← hgl] at this
      simpa [qrows] using this
    have HR := Lib.hid hr
    have H1 := Lib.hid h1
    have hgl2 : g.length ≤ 1000000 := by rw [← hgl] at hL; simpa [qrows] using hL
    have hj2 : (j : Int) < (g.length : Int) := by omega
    have HD : Hid (qdel L t k = qrows (g.take j ++ g.drop (j + 1))) := by
      have : qdel L t k = qrows (g.take j ++ g.drop (j + 1)) := by
        unfold qdel
        rw [if_neg (by omega), qrows_erase, hgl, h1]
        rfl
      exact this
    have HH : Hid (qhas L t k = true) := by
      have : qhas L t k = true := by unfold qhas; rw [decide_eq_true_iff]; omega
      exact this
    obtain ⟨a, cap, hlv⟩ := hr.l.sl.shape
    have q1 := hr.root.cell 1
    rw [hlv] at q1
    have hcap : g.length ≤ cap := hr.cap _ _ _ hlv
    have HS := Lib.hid hr.l.sl
    rw [hlv] at HS
    have HC : Hid (∀ r ∈ g, r.cv.oneCell' = true) := fun r hm => (hr.l.cols r hm).one
    clear hr h1 h2 h3 h4 hgl hlv
    have q2 : w.cell? ⟨rb, 1, none⟩ = some (.slice a g.length cap) := q1
    clear q1
    have HT : Hid (SlAt w 3 (.slice a j cap) j (flatQ (g.take j))) := by
      have := HS.out.take (k := j) (c' := cap) (by omega) (fun e => by
        rcases HS.out.2 with ⟨h1, _⟩ | ⟨a', c', h1, _⟩
        · simp only [Value.slice.injEq] at h1; exact h1.2.2
        · subst e; simp at h1)
      rw [flatQ_take] at this
      exact this
    have HO1 : Hid (∀ u ∈ flatQ (g.take j), u.oneCell' = true) := flatQ_one fun r hr => HC.out r (List.mem_of_mem_take hr)
    have HO2 : Hid (∀ u ∈ flatQ (g.drop (j + 1)), u.oneCell' = true) := flatQ_one fun r hr => HC.out r (List.mem_of_mem_drop hr)
    have HX : (cap = j + 1 ∧ g.length = j + 1 ∧ Hid (SlAt w 3 (.slice a 0 0) 0 (flatQ (g.drop (j + 1))))) ∨ (cap ≠ j + 1 ∧ True ∧ Hid (SlAt w 3 (.slice (a.map (·.add ((j + 1) * 3))) (g.length - (j + 1)) (cap - (j + 1))) (g.length - (j + 1)) (flatQ (g.drop (j + 1))))) := by
      have := HS.out.drop (k := j + 1) (by omega) hcap
      rw [flatQ_drop] at this
      by_cases hc1 : cap = j + 1
      · rw [if_pos hc1, show cap - (j + 1) = 0 by omega, show g.length - (j + 1) = 0 by omega] at this
        exact .inl ⟨hc1, by omega, this⟩
      · rw [if_neg hc1] at this
        exact .inr ⟨hc1, trivial, this⟩
    rcases HX with ⟨rfl, hc2, HD2⟩ | ⟨hc1, hc2, HD2⟩
    all_goals
      have Hc2 := Lib.hid hc2
      clear hc2
      go_enter Tryz.func61, Tryz.ntmps61
      go_wp2_with (first
        | (go_at_call 97; refine (rat_any t k _ H.out hL).mono ?_; rintro e w' ⟨he, rfl⟩; rw [H1.out] at he; subst he)
        | (at_builtin
           refine wpList_app _ rfl _ _ _ rfl slQ (.slice none 0 0) rfl (World.ownsRow_nil _ _ _ _) _ rfl HT.out HO1.out (by omega) ?_
           intro a2 c2 w2 ho hg hat
           have hf2 := Fr.app0 (Fr.refl w Nil) hg
           have q3 := hf2.cell q2 (fun h => h)
           rw [Nat.zero_add] at ho hat
           have Ho := Lib.hid ho
           have Hat := Lib.hid (fresh_of hat)
           clear ho hat hg)
        | (at_builtin
           refine wpList_app _ rfl _ _ _ rfl slQ (.slice a2 j c2) rfl Ho.out _ rfl (HD2.out.fr0 hf2) HO2.out (by omega) ?_
           intro a3 c3 w3 ho3 hg3 hat3
           have hf3 := Fr.app hf2 hg3 Hat.out
           have hB := HR.out.root.fr hf3 (fun h => h)
           have q4 := hB.cell 1
           have q5 := hB.free 1))
      have Ho3 := Lib.hid ho3
      have Hat3 := Lib.hid (fresh_of2 hat3 Hat.out hf2.size)
      have Hf3 := Lib.hid hf3
      clear ho3 hat3 hf3 hg3 hB q4 q5
      go_ret2
      refine ⟨by rw [HH.out]; rfl, ?_⟩
      rw [HD.out]
      have ho := Ho3.out
      rw [List.nil_append, ← flatQ_append] at ho
      have hmem : ∀ r ∈ g.take j ++ g.drop (j + 1), r ∈ g := fun r hr => by
        rw [List.mem_append] at hr
        exact hr.elim List.mem_of_mem_take List.mem_of_mem_drop
      refine HR.out.store Hf3.out ⟨(SlAt.of_own ho).1.cast ?_ rfl, fun r hr => ((HR.out.l.cols r (hmem r hr)).fr Hf3.out fun _ _ h => h)⟩ (SlAt.of_own ho).2 Hat3.out (fun k hk => (World.ownsRow.lt ho k hk).2) (fun r hr k hk => .inl (HR.out.inC r (hmem r hr) k hk))
      have := Hc2.out
      simp only [List.length_append, List.length_take, List.length_drop]
      omega
end Go.Proofs.YtgpekgnhbccnoaaGreat
namespace Go.Proofs.YtgpekgnhbccnoaaGreat
open Go Go.RowKit

def qafter (t k : Int) (r : QR) : Bool := decide (t < r.1) || (r.1 == t && decide (k < r.2.1))
def qposFrom (t k : Int) (L : List QR) : Nat → Nat
  | 0 => 0
  | n + 1 => if qafter t k (L[n]?.getD (0, 0, [])) then qposFrom t k L n else n + 1
def qpos (t k : Int) (L : List QR) : Nat := qposFrom t k L L.length
def qins (L : List QR) (t k : Int) (xs : List Int) : List QR := L.take (qpos t k L) ++ (t, k, xs) :: L.drop (qpos t k L)
def qmay (N : List Int) (t : Int) (xs : List Int) : Bool := decide (qcols N t ≠ 0 ∧ (xs.length : Int) = qcols N t)
def qput (N : List Int) (L : List QR) (t k : Int) (xs : List Int) : List QR := if qmay N t xs then qins (qdel L t k) t k xs else L

theorem qdel_len (L : List QR) (t k : Int) : (qdel L t k).length ≤ L.length := by
  unfold qdel
  split
  · exact Nat.le_refl _
  · exact List.length_eraseIdx_le _ _
theorem qrows_ins (g : List QRow) (n : Nat) (x : QRow) : qrows (g.take n ++ (x :: g.drop n)) = (qrows g).take n ++ x.mod :: (qrows g).drop n := by
  simp [qrows, List.map_take, List.map_drop]

theorem or_and_true {a b c : Bool} (h : (a || (b && c)) = true) : a = true ∨ (a = false ∧ b = true ∧ c = true) := by cases a <;> cases b <;> cases c <;> simp_all
theorem or_and_false {a b c : Bool} (h : ¬ (a || (b && c)) = true) : (a = false ∧ b = false) ∨ (a = false ∧ b = true ∧ c = false) := by cases a <;> cases b <;> cases c <;> simp_all
theorem SlAt.of_block {w : World} {b : Nat} {e : TypeId} {cs : List Value} (h : Bk w b e cs) : SlAt w cs.length (.slice (some ⟨b, 0, none⟩) 1 1) 1 cs := by
  refine ⟨by simp, .inr ⟨_, 1, rfl, fun j u hu => ?_⟩⟩
  rw [Addr.add_lit, Nat.zero_add, h.cell j]
  exact hu
theorem RefUpd.trans {w w1 w2 : World} {rb : Nat} {N : List Int} {L : List QR} {S : Nat → Prop} (hf : Fr w w1 (fun k => k = rb)) (h : RefUpd w1 rb N L (Gr S w w1) w2) : RefUpd w rb N L S w2 := by
  obtain ⟨⟨nv, lv, g, h1, h2⟩, h3⟩ := h
  have s1 := hf.size
  have s2 := h3.size
  have hG : ∀ k, Gr (Gr S w w1) w1 w2 k → Gr S w w2 k := by
    intro k hk
    rcases hk with (hk | hk) | hk
    · exact .inl hk
    · exact .inr ⟨hk.1, by omega⟩
    · exact .inr ⟨by omega, hk.2⟩
  refine ⟨⟨nv, lv, g, ⟨h1.root, h1.n, h1.l, h1.cap, hG _ h1.inR, fun k hk => ⟨hG _ (h1.inN k hk).1, (h1.inN k hk).2⟩, fun k hk => ⟨hG _ (h1.inL k hk).1, (h1.inL k hk).2⟩, fun r hr k hk => ⟨hG _ (h1.inC r hr k hk).1, (h1.inC r hr k hk).2⟩, ?_⟩, h2⟩, hf.transS h3⟩
  intro k hk
  rcases hk with hk | hk
  · exact h1.lt k (.inl (.inl hk))
  · exact hk.2
theorem rput_end {w w1 w2 w7 : World} {rb : Nat} {N : List Int} {nv lv : Value} {g : List QRow} {S : Nat → Prop} {t k : Int} {xs : List Int} {a2 a7 : Option Addr} {c2 c7 n m : Nat} {X : Obj}
    (hr : RefG w1 rb N nv lv g (Gr S w w1)) (hf1 : Fr w w1 (fun k => k = rb)) (hc : Cloned xs w1 (.slice a2 xs.length c2) w2) (hf : Fr (w2.alloc X) w7 Nil) (hn : n ≤ g.length)
    (ho : w7.ownsRow 0 130 3 (.slice a7 m c7) m (flatQ (g.take n) ++ [Value.int .i64 t, .int .i64 k, .slice a2 xs.length c2] ++ flatQ (g.drop n))) (hm : m = g.length + 1)
    (hat : ∀ j, (Value.slice a7 m c7).ownBlock = some j → (w2.alloc X).heap.size ≤ j) : RefUpd w rb N ((qrows g).take n ++ (t, k, xs) :: (qrows g).drop n) S (w7.setCell ⟨rb, 1, none⟩ (.slice a7 m c7)) := by
  have hfa : Fr w1 w7 Nil := (hc.2.2.alloc X).trans0 hf
  have s2 := hc.2.2.size
  have s7 := hf.size
  simp only [World.size_alloc] at s7 hat
  have hcols : ∀ r ∈ g.take n ++ (⟨t, k, .slice a2 xs.length c2, xs⟩ : QRow) :: g.drop n, IntsAt w7 r.cv r.cols := by
    intro r hr'
    rw [List.mem_append, List.mem_cons] at hr'
    rcases hr' with h | rfl | h
    · exact (hr.l.cols r (List.mem_of_mem_take h)).fr hfa fun _ _ h => h
    · exact (hc.1.at.fr ((Fr.refl w2 Nil).alloc X) fun _ _ h => h).fr hf fun _ _ h => h
    · exact (hr.l.cols r (List.mem_of_mem_drop h)).fr hfa fun _ _ h => h
  have hfl : flatQ (g.take n ++ (⟨t, k, .slice a2 xs.length c2, xs⟩ : QRow) :: g.drop n) = flatQ (g.take n) ++ [Value.int .i64 t, .int .i64 k, .slice a2 xs.length c2] ++ flatQ (g.drop n) := by simp [flatQ]
  have key := hr.store (g' := g.take n ++ (⟨t, k, .slice a2 xs.length c2, xs⟩ : QRow) :: g.drop n) hfa ⟨(SlAt.of_own ho).1.cast (by simp only [List.length_append, List.length_cons, List.length_take, List.length_drop]; omega) hfl.symm, hcols⟩ (SlAt.of_own ho).2
    (fun j hj => by have := hat j hj; omega) (fun j hj => (World.ownsRow.lt ho j hj).2) (fun r hr' j hj => by
      rw [List.mem_append, List.mem_cons] at hr'
      rcases hr' with h | rfl | h
      · exact .inl (hr.inC r (List.mem_of_mem_take h) j hj)
      · exact .inr ⟨hc.2.1 j hj, by have := hc.1.lt j hj; omega⟩
      · exact .inl (hr.inC r (List.mem_of_mem_drop h) j hj))
  rw [qrows_ins] at key
  exact key.trans hf1

set_option maxRecDepth 100000 in
set_option maxHeartbeats 1000000 in
theorem rput_any {rb : Nat} {N : List Int} {L : List QR} {S : Nat → Prop} (t k : Int) (v : Value) (xs : List Int) (w : World) (h : RefAt w rb N L S) (hq : QOk N L) (hv : IntsAt w v xs) (hvb : 0 < xs.length → ∀ j, v.ownBlock = some j → j ≠ rb) (hxl : xs.length ≤ 1000000) :
    Calls Tryz.prog 44 #[.pointer (some ⟨rb, 0, none⟩), .int .i64 t, .int .i64 k, v] w fun e w' =>
      e = .returned (.bool (qmay N t xs)) ∧ RefUpd w rb N (qput N L t k xs) S w' := by
  have H := Lib.hid h
  have Hq := Lib.hid hq
  have hL : L.length ≤ 100000 := hq.l
  have hN : N.length ≤ 1000000 := by have := hq.n; omega
  obtain ⟨av, cv, rfl⟩ := hv.shape
  have Hv := Lib.hid hv
  have Hvb := Lib.hid hvb
  clear h hq hv hvb
  by_cases hc0 : qcols N t = 0
  · have HM : Hid (qmay N t xs = false) := by
      have : qmay N t xs = false := by unfold qmay; rw [decide_eq_false_iff_not]; exact fun h => h.1 hc0
      exact this
    have f0 : (qcols N t == 0) = true := by rw [beq_iff_eq]; exact hc0
    have HP : Hid (qput N L t k xs = L) := by
      have : qput N L t k xs = L := by unfold qput; rw [HM.out]; rfl
      exact this
    clear hc0
    go_enter Tryz.func44, Tryz.ntmps44
    go_wp2_with (go_at_call 88; refine (rcols_any t _ H.out hN).mono ?_; rintro e w' ⟨rfl, rfl⟩)
    go_ret
    refine ⟨by rw [HM.out]; rfl, ?_⟩
    rw [HP.out]
    exact RefUpd.same H.out (Fr.refl _ _)
  · have f0 : (qcols N t == 0) = false := by rw [beq_eq_false_iff_ne]; exact hc0
    by_cases hc1 : (xs.length : Int) = qcols N t
    · have f1 : ((xs.length : Int) != qcols N t) = false := by rw [bne_eq_false_iff_eq]; exact hc1
      have HM : Hid (qmay N t xs = true) := by
        have : qmay N t xs = true := by unfold qmay; rw [decide_eq_true_iff]; exact ⟨hc0, hc1⟩
        exact this
      have HP : Hid (qput N L t k xs = qins (qdel L t k) t k xs) := by
        have : qput N L t k xs = qins (qdel L t k) t k xs := by unfold qput; rw [HM.out]; rfl
        exact this
      clear hc0 hc1
      go_enter Tryz.func44, Tryz.ntmps44
      go_wp2_with (first
        | (go_at_call 88; refine (rcols_any t _ H.out hN).mono ?_; rintro e w' ⟨rfl, rfl⟩)
        | fail)
      refine (rdel_any t k _ H.out Hq.out).mono ?_
      rintro e w1 ⟨rfl, hu⟩
      obtain ⟨⟨nv, lv, g, hr, hgl⟩, hf1⟩ := hu
      have HV1 : Hid (IntsAt w1 (.slice av xs.length cv) xs) := Hv.out.frN hf1 Hvb.out
      have HR := Lib.hid hr
      have HF1 := Lib.hid hf1
      have HGL := Lib.hid hgl
      have hg1 : g.length ≤ 100000 := by
        have := qdel_len L t k
        rw [← hgl] at this
        simp [qrows] at this
        omega
      obtain ⟨al, cap, hlv⟩ := hr.l.sl.shape
      have q1 := hr.root.cell 1
      rw [hlv] at q1
      have q2 : w1.cell? ⟨rb, 1, none⟩ = some (.slice al g.length cap) := q1
      have hcap : g.length ≤ cap := hr.cap _ _ _ hlv
      have HL := Lib.hid hr.l
      rw [hlv] at HL
      clear hr hf1 hgl hlv q1
      go_wp2_with (first
        | (at_builtin
           refine wpList_app _ rfl _ _ _ rfl slI (.slice none 0 0) rfl (World.ownsRow_nil _ _ _ _) _ rfl (SlAt.of_ints HV1.out) (ints_one _) (by omega) ?_
           intro a2 c2 w2 ho hg hat
           rw [Nat.zero_add] at ho hat
           have HC := Lib.hid (Cloned.of_app rfl ho hg hat)
           have q3 := HC.out.2.2.cell q2 (fun h => h)
           have z3 := fun o => ((Fr.refl w2 Nil).alloc o).cell q3 (fun h => h)
           clear ho hg hat)
        | fail)
      have HW : Hid (QL (w2.alloc (Obj.cells #[Value.int .i64 t, .int .i64 k, .slice a2 xs.length c2] 130)) (.slice al g.length cap) g) := HL.out.fr0 (HC.out.2.2.alloc _)
      have HB0 : Hid (Bk (w2.alloc (Obj.cells #[Value.int .i64 t, .int .i64 k, .slice a2 xs.length c2] 130)) rb 123 [nv, lv]) := HR.out.root.fr (HC.out.2.2.alloc _) fun h => h
      go_loop [11] (fun vi => ∃ n : Nat, n ≤ g.length ∧ vi = .int .i64 n ∧ qpos t k (qdel L t k) = qposFrom t k (qdel L t k) n) (fun vi => (intOf vi).toNat)
      case atStart => exact ⟨g.length, Nat.le_refl _, rfl, by rw [← HGL.out]; unfold qpos; simp [qrows]⟩
      case round =>
        obtain ⟨n, hn, rfl, hps⟩ := hrel
        have Hps := Lib.hid hps
        clear hps
        by_cases hn0 : 0 < n
        · have hnl : n - 1 < g.length := by omega
          have hr := List.getElem?_eq_getElem hnl
          generalize g[n - 1] = r at hr
          obtain ⟨b, off, cap2, hv2, p0, p1, p2⟩ := HW.out.cells hr
          simp only [Value.slice.injEq, true_and] at hv2
          obtain ⟨rfl, rfl⟩ := hv2
          have HA : Hid (qpos t k (qdel L t k) = if qafter t k r.mod then qposFrom t k (qdel L t k) (n - 1) else n) := by
            have h1 := Hps.out
            obtain ⟨m, rfl⟩ : ∃ m, n = m + 1 := ⟨n - 1, by omega⟩
            have h2 : (qdel L t k)[m]? = some r.mod := by rw [← HGL.out]; simp only [Nat.add_sub_cancel] at hr; simp [qrows, hr]
            unfold qposFrom at h1
            rw [h2] at h1
            exact h1
          have hnI : (n : Int) - 1 < (g.length : Int) := by omega
          clear hr p2
          by_cases ha : qafter t k r.mod = true
          · have HPS : Hid (qpos t k (qdel L t k) = qposFrom t k (qdel L t k) (n - 1)) := by
              have h1 := HA.out
              rw [if_pos ha] at h1
              exact h1
            have hff := or_and_true (a := decide (t < r.table)) (b := r.table == t) (c := decide (k < r.key)) ha
            clear HA ha
            rcases hff with f2 | ⟨f2, f3, f4⟩
            · go_wp2_with fail
              go_round
              case rel => exact ⟨n - 1, by omega, by go_num, HPS.out⟩
              case measure => simp [intOf]; omega
            · go_wp2_with fail
              go_round
              case rel => exact ⟨n - 1, by omega, by go_num, HPS.out⟩
              case measure => simp [intOf]; omega
          · have HPS : Hid (n = qpos t k (qdel L t k)) := by
              have h1 := HA.out
              rw [if_neg ha] at h1
              exact h1.symm
            have hff := or_and_false (a := decide (t < r.table)) (b := r.table == t) (c := decide (k < r.key)) ha
            clear HA ha
            rcases hff with ⟨f2, f3⟩ | ⟨f2, f3, f4⟩
            · have HT : Hid (SlAt (w2.alloc (Obj.cells #[Value.int .i64 t, .int .i64 k, .slice a2 xs.length c2] 130)) 3 (.slice (some ⟨b, off, none⟩) n cap) n (flatQ (g.take n))) := by
                have := HW.out.sl.take (k := n) (c' := cap) hn (fun e => by
                  rcases HW.out.sl.2 with ⟨h1, _⟩ | ⟨a', c', h1, _⟩
                  · simp only [Value.slice.injEq] at h1; exact h1.2.2
                  · cases e)
                rw [flatQ_take] at this
                exact this
              have HO1 : Hid (∀ u ∈ flatQ (g.take n), u.oneCell' = true) := flatQ_one fun r hr => (HW.out.cols r (List.mem_of_mem_take hr)).one
              have HO2 : Hid (∀ u ∈ flatQ (g.drop n), u.oneCell' = true) := flatQ_one fun r hr => (HW.out.cols r (List.mem_of_mem_drop hr)).one
              have HO3 : Hid (∀ u ∈ [Value.int .i64 t, .int .i64 k, .slice a2 xs.length c2], u.oneCell' = true) := by
                intro u hu
                simp only [List.mem_cons, List.not_mem_nil, or_false] at hu
                rcases hu with rfl | rfl | rfl <;> rfl
              have HX : (n = cap ∧ g.length = n ∧ Hid (SlAt (w2.alloc (Obj.cells #[Value.int .i64 t, .int .i64 k, .slice a2 xs.length c2] 130)) 3 (.slice (some ⟨b, off, none⟩) 0 0) 0 (flatQ (g.drop n)))) ∨ (cap ≠ n ∧ True ∧ Hid (SlAt (w2.alloc (Obj.cells #[Value.int .i64 t, .int .i64 k, .slice a2 xs.length c2] 130)) 3 (.slice (some ⟨b, off + n * 3, none⟩) (g.length - n) (cap - n)) (g.length - n) (flatQ (g.drop n)))) := by
                have := HW.out.sl.drop (k := n) hn hcap
                rw [flatQ_drop] at this
                simp only [Option.map_some, Addr.add_lit] at this
                by_cases hc1 : cap = n
                · rw [if_pos hc1, show cap - n = 0 by omega, show g.length - n = 0 by omega] at this
                  exact .inl ⟨hc1.symm, by omega, this⟩
                · rw [if_neg hc1] at this
                  exact .inr ⟨hc1, trivial, this⟩
              have HXB : Hid (Bk (w2.alloc (Obj.cells #[Value.int .i64 t, .int .i64 k, .slice a2 xs.length c2] 130)) w2.heap.size 130 [Value.int .i64 t, .int .i64 k, .slice a2 xs.length c2]) := Bk.new w2 _ _
              rcases HX with ⟨rfl, hc2, HD2⟩ | ⟨hc1, hc2, HD2⟩
              all_goals
                have Hc2 := Lib.hid hc2
                clear hc2
                go_wp2_with (first
                  | (at_builtin
                     refine wpList_app _ rfl _ _ _ rfl slQ (.slice none 0 0) rfl (World.ownsRow_nil _ _ _ _) _ rfl HT.out HO1.out (by omega) ?_
                     intro a4 c4 w4 ho hg hat
                     have hf4 := Fr.app0 (Fr.refl (w2.alloc (Obj.cells #[Value.int .i64 t, .int .i64 k, .slice a2 xs.length c2] 130)) Nil) hg
                     have y3 := hf4.cell (z3 _) (fun h => h)
                     have hX4 := HXB.out.fr hf4 (fun h => h)
                     have x0 := hX4.cell 0
                     have x1 := hX4.cell 1
                     have x2 := hX4.cell 2
                     rw [Nat.zero_add] at ho hat
                     have Ho4 := Lib.hid ho
                     have Hat4 := Lib.hid (fresh_of hat)
                     have hf5 := hf4.alloc (Obj.cells #[Value.int .i64 t, .int .i64 k, .slice a2 xs.length c2] 130)
                     have HB5 := Lib.hid (Bk.new w4 130 #[Value.int .i64 t, .int .i64 k, .slice a2 xs.length c2])
                     clear ho hg hat hX4)
                  | (at_builtin
                     refine wpList_app _ rfl _ _ _ rfl slQ (.slice a4 n c4) rfl ((Fr.refl w4 Nil).alloc _ |>.own Ho4.out fun _ _ h => h) (.slice (some ⟨w4.heap.size, 0, none⟩) 1 1) rfl (SlAt.of_block HB5.out) HO3.out (by omega) ?_
                     intro a6 c6 w6 ho hg hat
                     have hf6 := Fr.app hf5 hg Hat4.out
                     have y6 := hf6.cell (z3 _) (fun h => h)
                     have Ho6 := Lib.hid ho
                     have Hat6 := Lib.hid (fresh_of2 hat Hat4.out hf5.size)
                     clear ho hg hat x0 x1 x2)
                  | (at_builtin
                     refine wpList_app _ rfl _ _ _ rfl slQ (.slice a6 (n + 1) c6) rfl Ho6.out _ rfl (HD2.out.fr0 hf6) HO2.out (by omega) ?_
                     intro a7 c7 w7 ho hg hat
                     have hf7 := Fr.app hf6 hg Hat6.out
                     have hB := HB0.out.fr hf7 (fun h => h)
                     have y7 := hB.cell 1
                     have y8 := hB.free 1
                     have Ho7 := Lib.hid ho
                     have Hat7 := Lib.hid (fresh_of2 hat Hat6.out hf6.size)
                     clear ho hg hat)
                  | fail)
                have Hf7 := Lib.hid hf7
                clear hf4 hf5 hf6 hf7 hB y3 y6 y7 y8
                go_ret
                refine ⟨by rw [HM.out]; rfl, ?_⟩
                rw [HP.out]
                have ho := Ho7.out
                rw [List.nil_append] at ho
                have hq7 := rput_end HR.out HF1.out HC.out (X := (Obj.cells #[Value.int .i64 t, .int .i64 k, .slice a2 xs.length c2] 130)) Hf7.out hn ho (by have := Hc2.out; omega) Hat7.out
                rw [HGL.out] at hq7
                unfold qins
                rw [← HPS.out]
                exact hq7
            · have HT : Hid (SlAt (w2.alloc (Obj.cells #[Value.int .i64 t, .int .i64 k, .slice a2 xs.length c2] 130)) 3 (.slice (some ⟨b, off, none⟩) n cap) n (flatQ (g.take n))) := by
                have := HW.out.sl.take (k := n) (c' := cap) hn (fun e => by
                  rcases HW.out.sl.2 with ⟨h1, _⟩ | ⟨a', c', h1, _⟩
                  · simp only [Value.slice.injEq] at h1; exact h1.2.2
                  · cases e)
                rw [flatQ_take] at this
                exact this
              have HO1 : Hid (∀ u ∈ flatQ (g.take n), u.oneCell' = true) := flatQ_one fun r hr => (HW.out.cols r (List.mem_of_mem_take hr)).one
              have HO2 : Hid (∀ u ∈ flatQ (g.drop n), u.oneCell' = true) := flatQ_one fun r hr => (HW.out.cols r (List.mem_of_mem_drop hr)).one
              have HO3 : Hid (∀ u ∈ [Value.int .i64 t, .int .i64 k, .slice a2 xs.length c2], u.oneCell' = true) := by
                intro u hu
                simp only [List.mem_cons, List.not_mem_nil, or_false] at hu
                rcases hu with rfl | rfl | rfl <;> rfl
              have HX : (n = cap ∧ g.length = n ∧ Hid (SlAt (w2.alloc (Obj.cells #[Value.int .i64 t, .int .i64 k, .slice a2 xs.length c2] 130)) 3 (.slice (some ⟨b, off, none⟩) 0 0) 0 (flatQ (g.drop n)))) ∨ (cap ≠ n ∧ True ∧ Hid (SlAt (w2.alloc (Obj.cells #[Value.int .i64 t, .int .i64 k, .slice a2 xs.length c2] 130)) 3 (.slice (some ⟨b, off + n * 3, none⟩) (g.length - n) (cap - n)) (g.length - n) (flatQ (g.drop n)))) := by
                have := HW.out.sl.drop (k := n) hn hcap
                rw [flatQ_drop] at this
                simp only [Option.map_some, Addr.add_lit] at this
                by_cases hc1 : cap = n
                · rw [if_pos hc1, show cap - n = 0 by omega, show g.length - n = 0 by omega] at this
                  exact .inl ⟨hc1.symm, by omega, this⟩
                · rw [if_neg hc1] at this
                  exact .inr ⟨hc1, trivial, this⟩
              have HXB : Hid (Bk (w2.alloc (Obj.cells #[Value.int .i64 t, .int .i64 k, .slice a2 xs.length c2] 130)) w2.heap.size 130 [Value.int .i64 t, .int .i64 k, .slice a2 xs.length c2]) := Bk.new w2 _ _
              rcases HX with ⟨rfl, hc2, HD2⟩ | ⟨hc1, hc2, HD2⟩
              all_goals
                have Hc2 := Lib.hid hc2
                clear hc2
                go_wp2_with (first
                  | (at_builtin
                     refine wpList_app _ rfl _ _ _ rfl slQ (.slice none 0 0) rfl (World.ownsRow_nil _ _ _ _) _ rfl HT.out HO1.out (by omega) ?_
                     intro a4 c4 w4 ho hg hat
                     have hf4 := Fr.app0 (Fr.refl (w2.alloc (Obj.cells #[Value.int .i64 t, .int .i64 k, .slice a2 xs.length c2] 130)) Nil) hg
                     have y3 := hf4.cell (z3 _) (fun h => h)
                     have hX4 := HXB.out.fr hf4 (fun h => h)
                     have x0 := hX4.cell 0
                     have x1 := hX4.cell 1
                     have x2 := hX4.cell 2
                     rw [Nat.zero_add] at ho hat
                     have Ho4 := Lib.hid ho
                     have Hat4 := Lib.hid (fresh_of hat)
                     have hf5 := hf4.alloc (Obj.cells #[Value.int .i64 t, .int .i64 k, .slice a2 xs.length c2] 130)
                     have HB5 := Lib.hid (Bk.new w4 130 #[Value.int .i64 t, .int .i64 k, .slice a2 xs.length c2])
                     clear ho hg hat hX4)
                  | (at_builtin
                     refine wpList_app _ rfl _ _ _ rfl slQ (.slice a4 n c4) rfl ((Fr.refl w4 Nil).alloc _ |>.own Ho4.out fun _ _ h => h) (.slice (some ⟨w4.heap.size, 0, none⟩) 1 1) rfl (SlAt.of_block HB5.out) HO3.out (by omega) ?_
                     intro a6 c6 w6 ho hg hat
                     have hf6 := Fr.app hf5 hg Hat4.out
                     have y6 := hf6.cell (z3 _) (fun h => h)
                     have Ho6 := Lib.hid ho
                     have Hat6 := Lib.hid (fresh_of2 hat Hat4.out hf5.size)
                     clear ho hg hat x0 x1 x2)
                  | (at_builtin
                     refine wpList_app _ rfl _ _ _ rfl slQ (.slice a6 (n + 1) c6) rfl Ho6.out _ rfl (HD2.out.fr0 hf6) HO2.out (by omega) ?_
                     intro a7 c7 w7 ho hg hat
                     have hf7 := Fr.app hf6 hg Hat6.out
                     have hB := HB0.out.fr hf7 (fun h => h)
                     have y7 := hB.cell 1
                     have y8 := hB.free 1
                     have Ho7 := Lib.hid ho
                     have Hat7 := Lib.hid (fresh_of2 hat Hat6.out hf6.size)
                     clear ho hg hat)
                  | fail)
                have Hf7 := Lib.hid hf7
                clear hf4 hf5 hf6 hf7 hB y3 y6 y7 y8
                go_ret
                refine ⟨by rw [HM.out]; rfl, ?_⟩
                rw [HP.out]
                have ho := Ho7.out
                rw [List.nil_append] at ho
                have hq7 := rput_end HR.out HF1.out HC.out (X := (Obj.cells #[Value.int .i64 t, .int .i64 k, .slice a2 xs.length c2] 130)) Hf7.out hn ho (by have := Hc2.out; omega) Hat7.out
                rw [HGL.out] at hq7
                unfold qins
                rw [← HPS.out]
                exact hq7
        · have g0 : decide (0 < n) = false := by rw [decide_eq_false_iff_not]; exact hn0
          have HPS : Hid (n = qpos t k (qdel L t k)) := by
            have h1 := Hps.out
            obtain rfl : n = 0 := by omega
            exact h1.symm
          clear hn0
          have HT : Hid (SlAt (w2.alloc (Obj.cells #[Value.int .i64 t, .int .i64 k, .slice a2 xs.length c2] 130)) 3 (.slice al n cap) n (flatQ (g.take n))) := by
            have := HW.out.sl.take (k := n) (c' := cap) hn (fun e => by
              rcases HW.out.sl.2 with ⟨h1, _⟩ | ⟨a', c', h1, _⟩
              · simp only [Value.slice.injEq] at h1; exact h1.2.2
              · subst e; simp at h1)
            rw [flatQ_take] at this
            exact this
          have HO1 : Hid (∀ u ∈ flatQ (g.take n), u.oneCell' = true) := flatQ_one fun r hr => (HW.out.cols r (List.mem_of_mem_take hr)).one
          have HO2 : Hid (∀ u ∈ flatQ (g.drop n), u.oneCell' = true) := flatQ_one fun r hr => (HW.out.cols r (List.mem_of_mem_drop hr)).one
          have HO3 : Hid (∀ u ∈ [Value.int .i64 t, .int .i64 k, .slice a2 xs.length c2], u.oneCell' = true) := by
            intro u hu
            simp only [List.mem_cons, List.not_mem_nil, or_false] at hu
            rcases hu with rfl | rfl | rfl <;> rfl
          have HX : (n = cap ∧ g.length = n ∧ Hid (SlAt (w2.alloc (Obj.cells #[Value.int .i64 t, .int .i64 k, .slice a2 xs.length c2] 130)) 3 (.slice al 0 0) 0 (flatQ (g.drop n)))) ∨ (cap ≠ n ∧ True ∧ Hid (SlAt (w2.alloc (Obj.cells #[Value.int .i64 t, .int .i64 k, .slice a2 xs.length c2] 130)) 3 (.slice (al.map (·.add (n * 3))) (g.length - n) (cap - n)) (g.length - n) (flatQ (g.drop n)))) := by
            have := HW.out.sl.drop (k := n) hn hcap
            rw [flatQ_drop] at this
            by_cases hc1 : cap = n
            · rw [if_pos hc1, show cap - n = 0 by omega, show g.length - n = 0 by omega] at this
              exact .inl ⟨hc1.symm, by omega, this⟩
            · rw [if_neg hc1] at this
              exact .inr ⟨hc1, trivial, this⟩
          have HXB : Hid (Bk (w2.alloc (Obj.cells #[Value.int .i64 t, .int .i64 k, .slice a2 xs.length c2] 130)) w2.heap.size 130 [Value.int .i64 t, .int .i64 k, .slice a2 xs.length c2]) := Bk.new w2 _ _
          rcases HX with ⟨rfl, hc2, HD2⟩ | ⟨hc1, hc2, HD2⟩
          all_goals
            have Hc2 := Lib.hid hc2
            clear hc2
            go_wp2_with (first
              | (at_builtin
                 refine wpList_app _ rfl _ _ _ rfl slQ (.slice none 0 0) rfl (World.ownsRow_nil _ _ _ _) _ rfl HT.out HO1.out (by omega) ?_
                 intro a4 c4 w4 ho hg hat
                 have hf4 := Fr.app0 (Fr.refl (w2.alloc (Obj.cells #[Value.int .i64 t, .int .i64 k, .slice a2 xs.length c2] 130)) Nil) hg
                 have y3 := hf4.cell (z3 _) (fun h => h)
                 have hX4 := HXB.out.fr hf4 (fun h => h)
                 have x0 := hX4.cell 0
                 have x1 := hX4.cell 1
                 have x2 := hX4.cell 2
                 rw [Nat.zero_add] at ho hat
                 have Ho4 := Lib.hid ho
                 have Hat4 := Lib.hid (fresh_of hat)
                 have hf5 := hf4.alloc (Obj.cells #[Value.int .i64 t, .int .i64 k, .slice a2 xs.length c2] 130)
                 have HB5 := Lib.hid (Bk.new w4 130 #[Value.int .i64 t, .int .i64 k, .slice a2 xs.length c2])
                 clear ho hg hat hX4)
              | (at_builtin
                 refine wpList_app _ rfl _ _ _ rfl slQ (.slice a4 n c4) rfl ((Fr.refl w4 Nil).alloc _ |>.own Ho4.out fun _ _ h => h) (.slice (some ⟨w4.heap.size, 0, none⟩) 1 1) rfl (SlAt.of_block HB5.out) HO3.out (by omega) ?_
                 intro a6 c6 w6 ho hg hat
                 have hf6 := Fr.app hf5 hg Hat4.out
                 have y6 := hf6.cell (z3 _) (fun h => h)
                 have Ho6 := Lib.hid ho
                 have Hat6 := Lib.hid (fresh_of2 hat Hat4.out hf5.size)
                 clear ho hg hat x0 x1 x2)
              | (at_builtin
                 refine wpList_app _ rfl _ _ _ rfl slQ (.slice a6 (n + 1) c6) rfl Ho6.out _ rfl (HD2.out.fr0 hf6) HO2.out (by omega) ?_
                 intro a7 c7 w7 ho hg hat
                 have hf7 := Fr.app hf6 hg Hat6.out
                 have hB := HB0.out.fr hf7 (fun h => h)
                 have y7 := hB.cell 1
                 have y8 := hB.free 1
                 have Ho7 := Lib.hid ho
                 have Hat7 := Lib.hid (fresh_of2 hat Hat6.out hf6.size)
                 clear ho hg hat)
              | fail)
            have Hf7 := Lib.hid hf7
            clear hf4 hf5 hf6 hf7 hB y3 y6 y7 y8
            go_ret
            refine ⟨by rw [HM.out]; rfl, ?_⟩
            rw [HP.out]
            have ho := Ho7.out
            rw [List.nil_append] at ho
            have hq7 := rput_end HR.out HF1.out HC.out (X := (Obj.cells #[Value.int .i64 t, .int .i64 k, .slice a2 xs.length c2] 130)) Hf7.out hn ho (by have := Hc2.out; omega) Hat7.out
            rw [HGL.out] at hq7
            unfold qins
            rw [← HPS.out]
            exact hq7
    · have f1 : ((xs.length : Int) != qcols N t) = true := by rw [bne_iff_ne]; exact hc1
      have HM : Hid (qmay N t xs = false) := by
        have : qmay N t xs = false := by unfold qmay; rw [decide_eq_false_iff_not]; exact fun h => hc1 h.2
        exact this
      have HP : Hid (qput N L t k xs = L) := by
        have : qput N L t k xs = L := by unfold qput; rw [HM.out]; rfl
        exact this
      clear hc0 hc1
      go_enter Tryz.func44, Tryz.ntmps44
      go_wp2_with (go_at_call 88; refine (rcols_any t _ H.out hN).mono ?_; rintro e w' ⟨rfl, rfl⟩)
      go_ret
      refine ⟨by rw [HM.out]; rfl, ?_⟩
      rw [HP.out]
      exact RefUpd.same H.out (Fr.refl _ _)
end Go.Proofs.YtgpekgnhbccnoaaGreat
