/-
  The document's log (interlockref14) in memory; New, last, Undo.
  The document's log: walk of Note.
  The document's log: walks of Back, Forget, Of.
-/
import Derived.Test.YtjpenaodkfljhaaUdState
namespace Go.Proofs.Ytjpenaodkfljhaa
open Go Go.RowKit

structure DEnt where
  who : Int
  table : Int
  key : Int
  cv : Value
  cols : List Int
  sm : Bool
abbrev DEnt.vals (e : DEnt) : List Value := [.int .i64 e.who, .int .i64 e.table, .int .i64 e.key, e.cv, .bool e.sm]
def DEnt.mod (e : DEnt) : Int × Ent := (e.who, (e.table, e.key, if e.sm then some e.cols else none))
def dvals (g : List DEnt) : List Value := g.flatMap DEnt.vals
def dmods (g : List DEnt) : List (Int × Ent) := g.map DEnt.mod
theorem dvals_len (g : List DEnt) : (dvals g).length = g.length * 5 := flat_len (f := DEnt.vals) (n := 5) (fun _ => rfl) g
theorem dvals_append (a b : List DEnt) : dvals (a ++ b) = dvals a ++ dvals b := by simp [dvals]
theorem dvals_take (g : List DEnt) (k : Nat) : (dvals g).take (k * 5) = dvals (g.take k) := by
  induction g generalizing k with
  | nil => simp [dvals]
  | cons r g ih =>
    cases k with
    | zero => simp [dvals]
    | succ k =>
      rw [List.take_succ_cons]
      show (r.vals ++ dvals g).take ((k + 1) * 5) = r.vals ++ dvals (g.take k)
      rw [List.take_append, List.take_of_length_le (by simp; omega), ← ih]
      congr 2
      simp; omega
theorem dvals_drop (g : List DEnt) (k : Nat) : (dvals g).drop (k * 5) = dvals (g.drop k) := by
  induction g generalizing k with
  | nil => simp [dvals]
  | cons r g ih =>
    cases k with
    | zero => simp [dvals]
    | succ k =>
      rw [List.drop_succ_cons]
      show (r.vals ++ dvals g).drop ((k + 1) * 5) = dvals (g.drop k)
      rw [List.drop_append, List.drop_eq_nil_of_le (by simp; omega), List.nil_append, ← ih]
      congr 1
      simp; omega
theorem dvals_one {g : List DEnt} (h : ∀ e ∈ g, e.cv.oneCell' = true) : ∀ u ∈ dvals g, u.oneCell' = true := by
  intro u hu
  simp only [dvals, List.mem_flatMap, DEnt.vals] at hu
  obtain ⟨r, hr, hu⟩ := hu
  simp only [List.mem_cons, List.not_mem_nil, or_false] at hu
  rcases hu with rfl | rfl | rfl | rfl | rfl
  · rfl
  · rfl
  · rfl
  · exact h r hr
  · rfl
theorem slD : SlT Try.prog 122 133 5 56 :=
  SlT.mk (z := .agg #[.int .i64 0, .int .i64 0, .int .i64 0, .slice none 0 0, .bool false]) Try.underlying122 (by kernel_rfl) (by rfl) (by decide) (by decide)
theorem sl_dent (w : World) (e : TypeId) (g : DEnt) : SlAt (w.alloc (.cells g.vals.toArray e)) 5 (.slice (some ⟨w.heap.size, 0, none⟩) 1 1) 1 (dvals [g]) :=
  ⟨rfl, .inr ⟨_, 1, rfl, fun j u hu => by
    rw [Addr.add_lit, Nat.zero_add, (Bk.new w e g.vals.toArray).cell j]
    simpa [dvals] using hu⟩⟩
structure DOk (w : World) (e : DEnt) : Prop where
  own : OwnInts w 2 e.cv e.cols
  len : e.cols.length ≤ 1000000
theorem DOk.ints {w : World} {e : DEnt} (h : DOk w e) : IntsAt w e.cv e.cols := h.own.at
theorem DOk.fr {w w' : World} {e : DEnt} {S : Nat → Prop} (h : DOk w e) (hf : Fr w w' S) (hd : ∀ k, e.cv.ownBlock = some k → ¬ S k) : DOk w' e := ⟨h.own.fr hf hd, h.len⟩
structure DLogG (w : World) (lb : Nat) (most : Int) (lv : Value) (g : List DEnt) : Prop where
  root : Bk w lb 124 [.int .i64 most, lv]
  own : w.ownsRow 0 133 5 lv g.length (dvals g)
  ok : ∀ e ∈ g, DOk w e
  neL : ∀ k, lv.ownBlock = some k → k ≠ lb
  neC : ∀ e ∈ g, ∀ k, e.cv.ownBlock = some k → k ≠ lb ∧ lv.ownBlock ≠ some k
def DHas (lb : Nat) (lv : Value) (g : List DEnt) (k : Nat) : Prop := k = lb ∨ lv.ownBlock = some k ∨ ∃ e ∈ g, e.cv.ownBlock = some k
theorem DLogG.fr {w w' : World} {lb : Nat} {most : Int} {lv : Value} {g : List DEnt} {T : Nat → Prop} (h : DLogG w lb most lv g) (hf : Fr w w' T) (hd : ∀ k, DHas lb lv g k → ¬ T k) : DLogG w' lb most lv g :=
  ⟨h.root.fr hf (hd lb (.inl rfl)), hf.own h.own fun k hk => hd k (.inr (.inl hk)), fun e he => (h.ok e he).fr hf fun k hk => hd k (.inr (.inr ⟨e, he, hk⟩)), h.neL, h.neC⟩
theorem DLogG.shape {w : World} {lb : Nat} {most : Int} {lv : Value} {g : List DEnt} (h : DLogG w lb most lv g) : ∃ a c, lv = .slice a g.length c ∧ g.length ≤ c := by
  obtain ⟨a, c, rfl⟩ := (SlAt.of_own h.own).1.shape
  exact ⟨a, c, rfl, (SlAt.of_own h.own).2 _ _ _ rfl⟩
theorem DLogG.cells {w : World} {lb : Nat} {most : Int} {lv : Value} {g : List DEnt} (h : DLogG w lb most lv g) {i : Nat} {r : DEnt} (hr : g[i]? = some r) :
    ∃ b off cap, lv = .slice (some ⟨b, off, none⟩) g.length cap ∧ w.cell? ⟨b, off + i * 5, none⟩ = some (.int .i64 r.who) ∧ w.cell? ⟨b, off + i * 5 + 1, none⟩ = some (.int .i64 r.table) ∧ w.cell? ⟨b, off + i * 5 + 2, none⟩ = some (.int .i64 r.key) ∧ w.cell? ⟨b, off + i * 5 + 3, none⟩ = some r.cv ∧ w.cell? ⟨b, off + i * 5 + 4, none⟩ = some (.bool r.sm) := by
  have hi := (List.getElem?_eq_some_iff.1 hr).1
  obtain ⟨b, off, cap, rfl, hc⟩ := flat_form (f := DEnt.vals) (n := 5) (fun _ => rfl) (by decide) (SlAt.of_own h.own).1 (by omega)
  exact ⟨b, off, cap, rfl, hc i r hr 0 _ rfl, hc i r hr 1 _ rfl, hc i r hr 2 _ rfl, hc i r hr 3 _ rfl, hc i r hr 4 _ rfl⟩
def DLogAt (w : World) (lb : Nat) (most : Int) (L : List (Int × Ent)) (S : Nat → Prop) : Prop :=
  ∃ lv g, DLogG w lb most lv g ∧ dmods g = L ∧ (∀ k, DHas lb lv g k → S k) ∧ ∀ k, S k → k < w.heap.size
theorem DLogAt.fr {w w' : World} {lb : Nat} {most : Int} {L : List (Int × Ent)} {S T : Nat → Prop} (h : DLogAt w lb most L S) (hf : Fr w w' T) (hd : ∀ k, S k → ¬ T k) : DLogAt w' lb most L S := by
  obtain ⟨lv, g, h1, h2, h3, h4⟩ := h
  exact ⟨lv, g, h1.fr hf fun k hk => hd k (h3 k hk), h2, h3, fun k hk => Nat.lt_of_lt_of_le (h4 k hk) hf.size⟩
def dlogT (lb : Nat) (most : Int) (L : List (Int × Ent)) : Thing where
  At w S := DLogAt w lb most L S
  fr h hf hd := h.fr hf hd
  lt h := by obtain ⟨lv, g, _, _, _, h4⟩ := h; exact h4
/-- The list is another one. -/
theorem DLogG.store {w w3 : World} {lb : Nat} {most : Int} {lv lv' : Value} {g g' : List DEnt} (h : DLogG w lb most lv g) (hf : Fr w w3 (fun k => lv.ownBlock = some k)) (ho : w3.ownsRow 0 133 5 lv' g'.length (dvals g'))
    (hn : ∀ k, lv'.ownBlock = some k → k ≠ lb) (hok : ∀ e ∈ g', DOk w3 e ∧ ∀ k, e.cv.ownBlock = some k → k ≠ lb ∧ lv'.ownBlock ≠ some k) :
    DLogG (w3.setCell ⟨lb, 1, none⟩ lv') lb most lv' g' ∧ Fr w (w3.setCell ⟨lb, 1, none⟩ lv') (fun k => k = lb ∨ lv.ownBlock = some k) := by
  have hst : Fr w3 (w3.setCell ⟨lb, 1, none⟩ lv') (fun k => k = lb) := Fr.store w3 lb 1 lv'
  refine ⟨⟨(h.root.fr hf fun hk => h.neL lb hk rfl).set 1 lv', hst.own ho hn, fun e he => (hok e he).1.fr hst fun k hk => ((hok e he).2 k hk).1, hn, fun e he k hk => (hok e he).2 k hk⟩, ?_⟩
  exact (hf.mono fun k _ hk => .inr hk).trans hst fun k _ hk => .inl hk
def DNewRet (most : Int) (w : World) (e : Ending) (w' : World) : Prop := ∃ lb, e = .returned (rptr lb) ∧ DLogG w' lb (max 0 most) (.slice none 0 0) [] ∧ lb = w.heap.size ∧ w'.heap.size = lb + 1 ∧ Fr w w' Nil
set_option maxRecDepth 100000 in
set_option maxHeartbeats 1000000 in
theorem dnew_any (most : Int) (w : World) : Calls Try.prog 27 #[.int .i64 most] w (DNewRet most w) := by
  go_enter Try.func27, Try.ntmps27
  go_wp2_with fail
  go_ret
  refine ⟨w.heap.size, ?_, ⟨Bk.new _ _ _, World.ownsRow_nil _ _ _ _, (fun _ h => by cases h), (fun _ h => by cases h), (fun _ h => by cases h)⟩, rfl, by simp, (Fr.refl w Nil).alloc _⟩
  rfl
set_option maxRecDepth 100000 in
set_option maxHeartbeats 1000000 in
theorem dlast_any {lb : Nat} {most : Int} {lv : Value} {g : List DEnt} (who : Int) (w : World) (h : DLogG w lb most lv g) (hl : g.length ≤ 100000) :
    Calls Try.prog 99 #[rptr lb, .int .i64 who] w fun e w' => e = .returned (.int .i64 (lastI (dmods g) who g.length)) ∧ w = w' := by
  obtain ⟨a, c, rfl, hc⟩ := h.shape
  have q1 := h.root.cell 1
  have HG := Lib.hid h
  clear h
  simp only [List.getElem?_cons_zero, List.getElem?_cons_succ] at q1
  go_enter Try.func99, Try.ntmps99
  go_wp2_with fail
  go_loopw [5] (fun vi wr => ∃ n : Nat, n ≤ g.length ∧ vi = .int .i64 ((n : Int) - 1) ∧ lastI (dmods g) who g.length = lastI (dmods g) who n ∧ wr = w) (fun vi _ => ((intOf vi) + 1).toNat)
  case atStart => exact ⟨g.length, Nat.le_refl _, by go_num, rfl, rfl⟩
  case round =>
    obtain ⟨n, hn, rfl, hlast, rfl⟩ := hrel
    have HLa := Lib.hid hlast
    clear hlast
    cases n with
    | zero =>
      go_wp2_with fail
      go_ret
      exact ⟨by rw [HLa.out]; rfl, rfl⟩
    | succ m =>
      have hlt : m < g.length := hn
      have hgt := List.getElem?_eq_getElem hlt
      generalize g[m] = t at hgt
      obtain ⟨b, off, cap, hv, p0, p1, p2, p3, p4⟩ := HG.out.cells hgt
      simp only [Value.slice.injEq, true_and] at hv
      obtain ⟨rfl, rfl⟩ := hv
      have hm1 : (((m + 1 : Nat) : Int) - 1) = (m : Int) := by omega
      rw [hm1]
      have hmd : (dmods g)[m]? = some t.mod := by unfold dmods; rw [List.getElem?_map, hgt]; rfl
      have HLb : Hid (lastI (dmods g) who (m + 1) = if t.who == who then (m : Int) else lastI (dmods g) who m) := lastI_succ hmd
      have hmi : (m : Int) < (g.length : Int) := by omega
      clear hgt hmd p1 p2 p3 p4
      by_cases hw : t.who = who
      · have hw2 : (t.who == who) = true := by rw [beq_iff_eq]; exact hw
        have HW := Lib.hid hw2
        clear hw2
        subst hw
        go_wp2_with fail
        go_ret
        exact ⟨by rw [HLa.out, HLb.out, HW.out]; rfl, rfl⟩
      · have hw2 : (t.who == who) = false := by rw [beq_eq_false_iff_ne]; exact hw
        have HW := Lib.hid hw2
        go_wp2_with fail
        go_roundw
        case rel => exact ⟨m, by omega, by go_num, by rw [HLa.out, HLb.out, HW.out]; rfl, trivial⟩
        case measure => simp only [intOf]; omega
theorem colsN_undo (M : List MTab) (e : Ent) : colsN (undoE M e) = colsN M := by
  unfold undoE
  split
  · exact colsN_del _ _ _
  · exact colsN_put _ _ _ _
set_option maxRecDepth 100000 in
set_option maxHeartbeats 1000000 in
theorem dundo_any {qb N : Nat} {M : List MTab} {S : Nat → Prop} (e : DEnt) (w : World) (h : RefAt w qb (colsN M) (flatM M) S) (hg : Good M) (hf : Few N M) (hN : N < 1000) (he : DOk w e) (hq : ∀ k, e.cv.ownBlock = some k → k ≠ qb) :
    Calls Try.prog 100 #[.agg #[.int .i64 e.who, .int .i64 e.table, .int .i64 e.key, e.cv, .bool e.sm], rptr qb] w fun x w' => x = .returned (.tuple #[]) ∧ RefUpd w qb (colsN (undoE M e.mod.2)) (flatM (undoE M e.mod.2)) S w' := by
  obtain ⟨who, t, k, cv, xs, sm⟩ := e
  have hi := he.ints
  have hlen := he.len
  clear he
  simp only at hi hlen hq ⊢
  obtain ⟨a, c, rfl⟩ := hi.shape
  have HI := Lib.hid hi
  have HQ := Lib.hid hq
  have H := Lib.hid h
  have HK := Lib.hid (qok_flat hg hf (by omega))
  have HB : Bk (w.alloc (.cells #[.int .i64 who, .int .i64 t, .int .i64 k, .slice a xs.length c, .bool sm] 133)) w.heap.size 133 [.int .i64 who, .int .i64 t, .int .i64 k, .slice a xs.length c, .bool sm] := Bk.new w _ _
  have y1 := HB.cell 1
  have y2 := HB.cell 2
  have y3 := HB.cell 3
  have y4 := HB.cell 4
  simp only [List.getElem?_cons_zero, List.getElem?_cons_succ] at y1 y2 y3 y4
  have HF := Lib.hid ((Fr.refl w Nil).alloc (.cells #[.int .i64 who, .int .i64 t, .int .i64 k, .slice a xs.length c, .bool sm] 133))
  clear hi h HB
  have HS := Lib.hid (RefUpd.same H.out HF.out)
  rw [colsN_undo]
  cases sm with
  | true =>
    have HP : Hid (qput (colsN M) (flatM M) t k xs = flatM (mput M t k xs).1) := rel_put hg t k xs (good_put hg hf (by omega) t k xs).1
    go_enter Try.func100, Try.ntmps100
    go_wp2_with fail
    refine (rput_any t k _ xs _ HS.out.1 HK.out (HI.out.fr HF.out fun _ _ h => h) (fun _ j hj => HQ.out j hj) hlen).mono ?_
    rintro x w2 ⟨rfl, hu⟩
    rw [HP.out] at hu
    have HU := Lib.hid (RefUpd.trans HS.out.2 hu)
    clear hu
    go_wp2_with fail
    go_end0
    exact ⟨rfl, HU.out⟩
  | false =>
    have HP : Hid (qdel (flatM M) t k = flatM (mdel M t k).1) := rel_del hg t k (good_del hg hf t k).1
    go_enter Try.func100, Try.ntmps100
    go_wp2_with fail
    refine (rdel_any t k _ HS.out.1 HK.out).mono ?_
    rintro x w2 ⟨rfl, hu⟩
    rw [HP.out] at hu
    have HU := Lib.hid (RefUpd.trans HS.out.2 hu)
    clear hu
    go_wp2_with fail
    go_end0
    exact ⟨rfl, HU.out⟩
end Go.Proofs.Ytjpenaodkfljhaa
namespace Go.Proofs.Ytjpenaodkfljhaa
open Go Go.RowKit

def noteD (M : List MTab) (most : Int) (L : List (Int × Ent)) (t : Int) : Int := if (mtab M t).1 = 0 then 1 else if most ≤ (L.length : Int) then 2 else 0
theorem dmods_len (g : List DEnt) : (dmods g).length = g.length := List.length_map _
def DUpd (w : World) (lb : Nat) (most : Int) (lv : Value) (g : List DEnt) (L' : List (Int × Ent)) (w' : World) : Prop :=
  ∃ lv' g', DLogG w' lb most lv' g' ∧ dmods g' = L' ∧ (∀ j, DHas lb lv' g' j → DHas lb lv g j ∨ w.heap.size ≤ j) ∧ Fr w w' (fun j => j = lb ∨ lv.ownBlock = some j)
theorem DUpd.same {w w' : World} {lb : Nat} {most : Int} {lv : Value} {g : List DEnt} (h : DLogG w lb most lv g) (hf : Fr w w' Nil) : DUpd w lb most lv g (dmods g) w' :=
  ⟨lv, g, h.fr hf fun _ _ h => h, rfl, fun _ h => .inl h, hf.of_nil⟩
theorem DHas.lt {w : World} {lb : Nat} {most : Int} {lv : Value} {g : List DEnt} (h : DLogG w lb most lv g) {k : Nat} (hk : lv.ownBlock = some k) : k < w.heap.size := (World.ownsRow.lt h.own k hk).2
/-- One more entry. -/
theorem dnote_done {w w1 w3 : World} {lb : Nat} {most : Int} {a a3 : Option Addr} {c c3 : Nat} {g : List DEnt} (e : DEnt) (h : DLogG w lb most (.slice a g.length c) g) (hf1 : Fr w w1 Nil)
    (he : DOk w1 e) (hen : ∀ k, e.cv.ownBlock = some k → w.heap.size ≤ k ∧ k < w1.heap.size)
    (ho : w3.ownsRow 0 133 5 (.slice a3 (g.length + 1) c3) (g.length + 1) (dvals g ++ dvals [e]))
    (hg3 : w1.grownBy w3 (Value.slice a g.length c).ownBlock) (hat : (Value.slice a3 (g.length + 1) c3).ownBlock = (Value.slice a g.length c).ownBlock ∨ (Value.slice a3 (g.length + 1) c3).ownBlock = some w1.heap.size) :
    DUpd w lb most (.slice a g.length c) g (dmods g ++ [e.mod]) (w3.setCell ⟨lb, 1, none⟩ (.slice a3 (g.length + 1) c3)) := by
  have hsz := hf1.size
  have hlb := h.root.lt
  have hf3 : Fr w w3 (fun k => (Value.slice a g.length c).ownBlock = some k) := (hf1.of_nil).grown hg3 fun k hk _ => hk
  have hf13 : Fr w1 w3 (fun k => (Value.slice a g.length c).ownBlock = some k) := (Fr.refl w1 _).grown hg3 fun k hk _ => hk
  have hrow : ∀ k, (Value.slice a g.length c).ownBlock = some k → k < w.heap.size := fun k hk => (World.ownsRow.lt h.own k hk).2
  have hnew : ∀ k, (Value.slice a3 (g.length + 1) c3).ownBlock = some k → (Value.slice a g.length c).ownBlock = some k ∨ k = w1.heap.size := fun k hk => by
    rcases hat with q | q
    · exact .inl (by rw [← q]; exact hk)
    · rw [q] at hk; cases hk; exact .inr rfl
  have hlc : ∀ x ∈ g, ∀ k, x.cv.ownBlock = some k → k < w.heap.size := fun x hx k hk => (h.ok x hx).own.lt k hk
  have hmem : ∀ x ∈ g ++ [e], x ∈ g ∨ x = e := fun x hx => by simpa using hx
  obtain ⟨s1, s2⟩ := h.store hf3 (g' := g ++ [e]) (lv' := .slice a3 (g.length + 1) c3) (by rw [List.length_append, dvals_append]; exact ho)
    (fun k hk => by
      rcases hnew k hk with q | rfl
      · exact h.neL k q
      · omega)
    (fun x hx => by
      rcases hmem x hx with hx | rfl
      · refine ⟨(h.ok x hx).fr hf3 fun k hk hr => (h.neC x hx k hk).2 hr, fun k hk => ⟨(h.neC x hx k hk).1, fun hr => ?_⟩⟩
        rcases hnew k hr with q | rfl
        · exact (h.neC x hx k hk).2 q
        · have := hlc x hx _ hk; omega
      · refine ⟨he.fr hf13 fun k hk hr => by have := (hen k hk).1; have := hrow k hr; omega, fun k hk => ⟨by have := (hen k hk).1; omega, fun hr => ?_⟩⟩
        rcases hnew k hr with q | rfl
        · have := (hen k hk).1; have := hrow k q; omega
        · have := (hen _ hk).2; omega)
  refine ⟨_, _, s1, by simp [dmods], fun j hj => ?_, s2⟩
  rcases hj with rfl | hj | ⟨x, hx, hj⟩
  · exact .inl (.inl rfl)
  · rcases hnew j hj with q | rfl
    · exact .inl (.inr (.inl q))
    · exact .inr hsz
  · rcases hmem x hx with hx | rfl
    · exact .inl (.inr (.inr ⟨x, hx, hj⟩))
    · exact .inr (hen j hj).1

set_option maxRecDepth 100000 in
set_option maxHeartbeats 2000000 in
theorem dnote_any {lb qb N : Nat} {most : Int} {lv : Value} {g : List DEnt} {M : List MTab} {Sq : Nat → Prop} (who t k : Int) (w : World) (h : DLogG w lb most lv g) (hr : RefAt w qb (colsN M) (flatM M) Sq) (hg : Good M) (hf : Few N M) (hN : N < 1000) (hl : g.length ≤ 100000) :
    Calls Try.prog 71 #[rptr lb, .int .i64 who, rptr qb, .int .i64 t, .int .i64 k] w fun e w' => e = .returned (.int .i64 (noteD M most (dmods g) t)) ∧ DUpd w lb most lv g (noteL M most (dmods g) who t k) w' := by
  obtain ⟨a, c, rfl, hc⟩ := h.shape
  have q0 := h.root.cell 0
  have q1 := h.root.cell 1
  have hq := qok_flat hg hf (by omega)
  simp only [List.getElem?_cons_zero, List.getElem?_cons_succ] at q0 q1
  have HQ := Lib.hid hq
  have HG := Lib.hid h
  have HR := Lib.hid hr
  have hNl : (colsN M).length ≤ 1000000 := by have := hq.n; omega
  have hcl := rel_cols M t
  clear h hr hq
  by_cases h0 : (mtab M t).1 = 0
  · have HD : Hid (noteD M most (dmods g) t = 1 ∧ noteL M most (dmods g) who t k = dmods g) := by
      have : noteD M most (dmods g) t = 1 ∧ noteL M most (dmods g) who t k = dmods g := by
        unfold noteD noteL noteE
        rw [if_pos h0, if_pos h0]
        exact ⟨rfl, if_neg (by decide)⟩
      exact this
    rw [h0] at hcl
    have hcl2 : qcols (colsN M) t = 0 := hcl
    have HC := Lib.hid hcl2
    clear hcl hcl2 h0
    go_enter Try.func71, Try.ntmps71
    go_wp2_with fail
    refine (rcols_any t _ HR.out hNl).mono ?_
    rintro e w1 ⟨rfl, rfl⟩
    rw [HC.out]
    go_wp2_with fail
    go_ret
    rw [HD.out.1, HD.out.2]
    exact ⟨rfl, DUpd.same HG.out (Fr.refl _ _)⟩
  · have hcp : (0 : Int) < (mtab M t).1 := by omega
    have hcn : ((((mtab M t).1 : Nat) : Int) == 0) = false := by rw [beq_eq_false_iff_ne]; omega
    by_cases h1 : most ≤ (g.length : Int)
    · have HD : Hid (noteD M most (dmods g) t = 2 ∧ noteL M most (dmods g) who t k = dmods g) := by
        have : noteD M most (dmods g) t = 2 ∧ noteL M most (dmods g) who t k = dmods g := by
          unfold noteD noteL noteE
          rw [if_neg h0, if_neg h0, dmods_len, if_pos h1, if_pos h1]
          exact ⟨rfl, if_neg (by decide)⟩
        exact this
      go_enter Try.func71, Try.ntmps71
      go_wp2_with fail
      refine (rcols_any t _ HR.out hNl).mono ?_
      rintro e w1 ⟨rfl, rfl⟩
      rw [hcl]
      clear hcl h0
      go_wp2_with fail
      go_quiet (fail)
      rename_i nq
      go_wp2_with fail
      go_ret
      rw [HD.out.1, HD.out.2]
      exact ⟨rfl, DUpd.same HG.out (Fr.drewN (Fr.refl _ _) _)⟩
    · have HD : Hid (noteD M most (dmods g) t = 0 ∧ noteL M most (dmods g) who t k = dmods g ++ [(who, entOf M t k)]) := by
        have : noteD M most (dmods g) t = 0 ∧ noteL M most (dmods g) who t k = dmods g ++ [(who, entOf M t k)] := by
          unfold noteD noteL noteE
          rw [if_neg h0, if_neg h0, dmods_len, if_neg h1, if_neg h1]
          exact ⟨rfl, if_pos rfl⟩
        exact this
      have hget : qget (flatM M) t k = mget (mtab M t) k := rel_get M t k
      have HGet := Lib.hid hget
      clear hget
      go_enter Try.func71, Try.ntmps71
      go_wp2_with fail
      refine (rcols_any t _ HR.out hNl).mono ?_
      rintro e w1 ⟨rfl, rfl⟩
      rw [hcl]
      clear hcl h0
      go_wp2_with fail
      go_quiet (fail)
      rename_i nq
      have HFn := Lib.hid (Fr.drewN (Fr.refl w Nil) nq)
      clear q0 q1
      go_wp2_with fail
      refine (rget_any t k _ (HR.out.fr0 HFn.out) HQ.out).mono ?_
      rintro e w2 hgr
      rcases hgr with ⟨xs, h1, a4, c4, rfl, hcl4, hnew4, hf2⟩ | ⟨h1, rfl, hf2⟩
      · have hge : mget (mtab M t) k = some xs := by rw [← HGet.out]; exact h1
        have hln := mget_len hg hge
        have HGE := Lib.hid hge
        clear HGet h1 hge
        have HF2 : Hid (Fr w w2 Nil) := HFn.out.trans0 hf2
        have HDO : Hid (DOk w2 ⟨who, t, k, (.slice a4 xs.length c4), xs, true⟩) := ⟨hcl4, hln⟩
        have HDN : Hid (∀ j, ((.slice a4 xs.length c4) : Value).ownBlock = some j → w.heap.size ≤ j ∧ j < w2.heap.size) := fun j hj => ⟨hnew4 j hj, hcl4.lt j hj⟩
        have hroot := HG.out.root.fr HF2.out fun h => h
        have q1 := hroot.cell 1
        have f1 := (hroot.alloc (.cells #[.int .i64 who, .int .i64 t, .int .i64 k, (.slice a4 xs.length c4), .bool true] 133)).free 1
        have ho0 := HG.out.own
        have HOWN := Lib.hid (Fr.own (HF2.out.alloc (.cells #[.int .i64 who, .int .i64 t, .int .i64 k, (.slice a4 xs.length c4), .bool true] 133)) ho0 fun _ _ h => h)
        have HSL := Lib.hid (sl_dent w2 133 ⟨who, t, k, (.slice a4 xs.length c4), xs, true⟩)
        have HONE : Hid (∀ u ∈ dvals [⟨who, t, k, (.slice a4 xs.length c4), xs, true⟩], u.oneCell' = true) := dvals_one fun e he => by rw [List.mem_singleton.1 he]; rfl
        simp only [List.getElem?_cons_zero, List.getElem?_cons_succ] at q1
        clear hf2 ho0 hroot HFn
        go_wp2_with (at_builtin; refine wpList_app _ rfl _ _ _ rfl slD (.slice a g.length c) rfl HOWN.out _ rfl HSL.out HONE.out (by omega) ?_; intro a3 c3 w3 ho hg3 hat; have hroot3 := ((HG.out.root.fr HF2.out fun h => h).alloc (.cells #[.int .i64 who, .int .i64 t, .int .i64 k, (.slice a4 xs.length c4), .bool true] 133)).fr (S := fun j => (Value.slice a g.length c).ownBlock = some j) ((Fr.refl _ _).grown hg3 fun j hj _ => hj) (fun h => HG.out.neL _ h rfl); have q2 := hroot3.cell 1; have f2 := hroot3.free 1)
        go_ret
        rw [HD.out.1, HD.out.2]
        refine ⟨rfl, ?_⟩
        have hfin := dnote_done ⟨who, t, k, (.slice a4 xs.length c4), xs, true⟩ HG.out (HF2.out.alloc (.cells #[.int .i64 who, .int .i64 t, .int .i64 k, (.slice a4 xs.length c4), .bool true] 133)) (HDO.out.fr ((Fr.refl w2 Nil).alloc _) fun _ _ h => h) (fun j hj => ⟨(HDN.out j hj).1, by have := (HDN.out j hj).2; simp; omega⟩) ho hg3 hat
        rw [show (who, entOf M t k) = (⟨who, t, k, (.slice a4 xs.length c4), xs, true⟩ : DEnt).mod by unfold entOf; rw [HGE.out]; rfl]
        exact hfin
      · have hge : mget (mtab M t) k = none := by rw [← HGet.out]; exact h1
        have HGE := Lib.hid hge
        clear HGet h1 hge
        have HF2 : Hid (Fr w w2 Nil) := HFn.out.trans0 hf2
        have HDO : Hid (DOk w2 ⟨who, t, k, (.slice none 0 0), [], false⟩) := ⟨World.ownsRow_nil _ _ _ _, by simp⟩
        have HDN : Hid (∀ j, ((.slice none 0 0) : Value).ownBlock = some j → w.heap.size ≤ j ∧ j < w2.heap.size) := fun j hj => by cases hj
        have hroot := HG.out.root.fr HF2.out fun h => h
        have q1 := hroot.cell 1
        have f1 := (hroot.alloc (.cells #[.int .i64 who, .int .i64 t, .int .i64 k, (.slice none 0 0), .bool false] 133)).free 1
        have ho0 := HG.out.own
        have HOWN := Lib.hid (Fr.own (HF2.out.alloc (.cells #[.int .i64 who, .int .i64 t, .int .i64 k, (.slice none 0 0), .bool false] 133)) ho0 fun _ _ h => h)
        have HSL := Lib.hid (sl_dent w2 133 ⟨who, t, k, (.slice none 0 0), [], false⟩)
        have HONE : Hid (∀ u ∈ dvals [⟨who, t, k, (.slice none 0 0), [], false⟩], u.oneCell' = true) := dvals_one fun e he => by rw [List.mem_singleton.1 he]; rfl
        simp only [List.getElem?_cons_zero, List.getElem?_cons_succ] at q1
        clear hf2 ho0 hroot HFn
        go_wp2_with (at_builtin; refine wpList_app _ rfl _ _ _ rfl slD (.slice a g.length c) rfl HOWN.out _ rfl HSL.out HONE.out (by omega) ?_; intro a3 c3 w3 ho hg3 hat; have hroot3 := ((HG.out.root.fr HF2.out fun h => h).alloc (.cells #[.int .i64 who, .int .i64 t, .int .i64 k, (.slice none 0 0), .bool false] 133)).fr (S := fun j => (Value.slice a g.length c).ownBlock = some j) ((Fr.refl _ _).grown hg3 fun j hj _ => hj) (fun h => HG.out.neL _ h rfl); have q2 := hroot3.cell 1; have f2 := hroot3.free 1)
        go_ret
        rw [HD.out.1, HD.out.2]
        refine ⟨rfl, ?_⟩
        have hfin := dnote_done ⟨who, t, k, (.slice none 0 0), [], false⟩ HG.out (HF2.out.alloc (.cells #[.int .i64 who, .int .i64 t, .int .i64 k, (.slice none 0 0), .bool false] 133)) (HDO.out.fr ((Fr.refl w2 Nil).alloc _) fun _ _ h => h) (fun j hj => ⟨(HDN.out j hj).1, by have := (HDN.out j hj).2; simp; omega⟩) ho hg3 hat
        rw [show (who, entOf M t k) = (⟨who, t, k, (.slice none 0 0), [], false⟩ : DEnt).mod by unfold entOf; rw [HGE.out]; rfl]
        exact hfin
end Go.Proofs.Ytjpenaodkfljhaa
namespace Go.Proofs.Ytjpenaodkfljhaa
open Go Go.RowKit

def DBackRet (lb qb : Nat) (most : Int) (lv : Value) (g : List DEnt) (M : List MTab) (Sq : Nat → Prop) (who : Int) (w : World) (e : Ending) (w' : World) : Prop :=
  (ofL (dmods g) who = [] ∧ e = .returned (.bool false) ∧ Fr w w' Nil) ∨
  (∃ ds x, ofL (dmods g) who = ds ++ [x] ∧ e = .returned (.bool true) ∧ (∃ lv' g', DLogG w' lb most lv' g' ∧ dmods g' = backL (dmods g) who ∧ (∀ j, DHas lb lv' g' j → DHas lb lv g j ∨ w.heap.size ≤ j) ∧ (∀ j, lv'.ownBlock = some j → w.heap.size ≤ j) ∧ (∀ y ∈ g', y ∈ g) ∧
    ∃ S', RefAt w' qb (colsN (undoE M x)) (flatM (undoE M x)) S' ∧ (∀ k, S' k → Sq k ∨ w.heap.size ≤ k) ∧ ∀ k, DHas lb lv' g' k → ¬ S' k) ∧ Fr w w' (fun j => j = lb ∨ j = qb))
theorem dmods_erase (g : List DEnt) (j : Nat) : dmods (g.take j ++ g.drop (j + 1)) = (dmods g).eraseIdx j := by
  rw [List.eraseIdx_eq_take_drop_succ]
  simp [dmods, List.map_take, List.map_drop]
theorem ref_in {w : World} {qb : Nat} {N : List Int} {L : List QR} {S : Nat → Prop} (h : RefAt w qb N L S) : S qb := by
  obtain ⟨nv, lv, g, h, _⟩ := h
  exact h.inR
theorem own_cast {w : World} {base : Nat} {e : TypeId} {size n m : Nat} {v : Value} {xs : List Value} (h : w.ownsRow base e size v n xs) (hn : n = m) : w.ownsRow base e size v m xs := by subst hn; exact h
theorem back_fin {w w1 w3 : World} {lb qb : Nat} {most : Int} {lv lv' : Value} {g g' : List DEnt} {M : List MTab} {Sq : Nat → Prop} {who : Int} {ds : List Ent} {x : Ent} (h0 : DLogG w lb most lv g) (hds : ∀ k, DHas lb lv g k → ¬ Sq k) (h1 : DLogG w1 lb most lv g) (hm : ∀ y ∈ g', y ∈ g) (hb : dmods g' = backL (dmods g) who) (ho : ofL (dmods g) who = ds ++ [x])
    (hu : RefAt w1 qb (colsN (undoE M x)) (flatM (undoE M x)) (Gr Sq w w1)) (hfu : Fr w w1 (fun k => k = qb)) (hf3 : Fr w1 w3 Nil) (how : w3.ownsRow 0 133 5 lv' g'.length (dvals g')) (hat : ∀ k, lv'.ownBlock = some k → w1.heap.size ≤ k) (hq : lb ≠ qb ∧ ∀ k, Gr Sq w w1 k → k ≠ lb) (hlts : ∀ k, Sq k → k < w.heap.size) :
    DBackRet lb qb most lv g M Sq who w (.returned (.bool true)) (w3.setCell ⟨lb, 1, none⟩ lv') := by
  have hlb := h1.root.lt
  have hsz := hfu.size
  have hrow : ∀ k, lv.ownBlock = some k → k < w1.heap.size := fun k hk => (World.ownsRow.lt h1.own k hk).2
  have hlc : ∀ x ∈ g, ∀ k, x.cv.ownBlock = some k → k < w1.heap.size := fun x hx k hk => (h1.ok x hx).own.lt k hk
  obtain ⟨s1, s2⟩ := h1.store (hf3.of_nil) how (fun k hk => by have := hat k hk; omega) (fun y hy => ⟨(h1.ok y (hm y hy)).fr hf3 fun _ _ h => h, fun k hk => ⟨(h1.neC y (hm y hy) k hk).1, fun hr => by have := hat k hr; have := hlc y (hm y hy) k hk; omega⟩⟩)
  have hst : Fr w3 (w3.setCell ⟨lb, 1, none⟩ lv') (fun k => k = lb) := Fr.store w3 lb 1 lv'
  have hf2 : Fr w1 (w3.setCell ⟨lb, 1, none⟩ lv') (fun k => k = lb) := (hf3.of_nil).transS hst
  refine .inr ⟨ds, x, ho, rfl, ⟨lv', g', s1, hb, fun j hj => ?_, fun j hj => by have := hat j hj; omega, hm, Gr Sq w w1, hu.fr hf2 fun k hk e => hq.2 k hk e, fun k hk => hk.imp id fun h => h.1, fun k hk hs => ?_⟩, ?_⟩
  · rcases hj with rfl | hj | ⟨y, hy, hj⟩
    · exact .inl (.inl rfl)
    · exact .inr (by have := hat j hj; omega)
    · exact .inl (.inr (.inr ⟨y, hm y hy, hj⟩))
  · rcases hk with rfl | hk | ⟨y, hy, hk⟩
    · rcases hs with hs | hs
      · exact hds _ (.inl rfl) hs
      · have := h0.root.lt; omega
    · have h5 := hat k hk
      rcases hs with hs | hs
      · have := hlts k hs; omega
      · omega
    · rcases hs with hs | hs
      · exact hds _ (.inr (.inr ⟨y, hm y hy, hk⟩)) hs
      · have := (h0.ok y (hm y hy)).own.lt k hk; omega
  · exact (hfu.mono fun k _ hk => .inr hk).trans hf2 fun k _ hk => .inl hk
set_option maxRecDepth 100000 in
set_option maxHeartbeats 2000000 in
theorem dback_any {lb qb N : Nat} {most : Int} {lv : Value} {g : List DEnt} {M : List MTab} {Sq : Nat → Prop} (who : Int) (w : World) (h : DLogG w lb most lv g) (hr : RefAt w qb (colsN M) (flatM M) Sq) (hd : ∀ k, DHas lb lv g k → ¬ Sq k) (hg : Good M) (hf : Few N M) (hN : N < 1000) (hl : g.length ≤ 100000) :
    Calls Try.prog 69 #[rptr lb, .int .i64 who, rptr qb] w (DBackRet lb qb most lv g M Sq who w) := by
  obtain ⟨a, c, rfl, hc⟩ := h.shape
  have HG := Lib.hid h
  have HR := Lib.hid hr
  have hqb := ref_in hr
  have HD : Hid (∀ k, DHas lb (.slice a g.length c) g k → k ≠ qb) := fun k hk e => hd k hk (by rw [e]; exact hqb)
  have HDS := Lib.hid hd
  clear h hr hd
  rcases back_cases (dmods g) who with ⟨h1, h2, h3⟩ | ⟨A, e, B, h1, h2, h3, h4, h5⟩
  · rw [dmods_len] at h2
    have H1 := Lib.hid h1
    have H2 := Lib.hid h2
    clear h1 h2 h3
    go_enter Try.func69, Try.ntmps69
    go_wp2_with fail
    refine (dlast_any who _ HG.out hl).mono ?_
    rintro x w1 ⟨he, rfl⟩
    rw [H2.out] at he
    subst he
    go_wp2_with fail
    go_ret
    exact .inl ⟨H1.out, rfl, Fr.refl _ _⟩
  · rw [dmods_len] at h3
    obtain ⟨j, hj⟩ : ∃ j, A.length = j := ⟨_, rfl⟩
    have hjl : j < g.length := by
      have := congrArg List.length h1
      rw [dmods_len] at this
      simp at this
      omega
    have hgt := List.getElem?_eq_getElem hjl
    generalize g[j] = r at hgt
    have hmd : r.mod = (who, e) := by
      have h6 : (dmods g)[j]? = some r.mod := by unfold dmods; rw [List.getElem?_map, hgt]; rfl
      rw [h1, List.getElem?_append_right (by omega), show j - A.length = 0 by omega] at h6
      simp at h6
      exact h6.symm
    have hbl : dmods (g.take j ++ g.drop (j + 1)) = backL (dmods g) who := by
      rw [dmods_erase, h4, h1, List.eraseIdx_append_of_length_le (by omega), show j - A.length = 0 by omega]
      rfl
    have HBL := Lib.hid hbl
    have H3 : Hid (lastI (dmods g) who g.length = (j : Int)) := by
      have : lastI (dmods g) who g.length = (j : Int) := by rw [h3, hj]
      exact this
    have H5 := Lib.hid h5
    have HMD := Lib.hid hmd
    have hrm := List.mem_of_getElem? hgt
    have HOK := Lib.hid (HG.out.ok r hrm)
    have HQ : Hid (∀ k, r.cv.ownBlock = some k → k ≠ qb) := fun k hk => HD.out k (.inr (.inr ⟨r, hrm, hk⟩))
    obtain ⟨b, off, cap, hv, p0, p1, p2, p3, p4⟩ := HG.out.cells hgt
    simp only [Value.slice.injEq, true_and] at hv
    obtain ⟨rfl, rfl⟩ := hv
    have hj2 : (j : Int) < (g.length : Int) := by omega
    have q1 := HG.out.root.cell 1
    simp only [List.getElem?_cons_zero, List.getElem?_cons_succ] at q1
    clear h1 h2 h3 h4 h5 hj hgt hmd hbl
    go_enter Try.func69, Try.ntmps69
    go_wp2_with fail
    refine (dlast_any who _ HG.out hl).mono ?_
    rintro x w1 ⟨he, rfl⟩
    rw [H3.out] at he
    subst he
    go_wp2_with fail
    refine (dundo_any r w HR.out hg hf hN HOK.out HQ.out).mono ?_
    rintro x w1 ⟨rfl, hu, hfu⟩
    rw [HMD.out] at hu
    have hG1 := HG.out.fr hfu fun k hk => HD.out k hk
    have HQL : Hid (lb ≠ qb ∧ ∀ k, Gr Sq w w1 k → k ≠ lb) := ⟨HD.out lb (.inl rfl), fun k hk e => by
      subst e
      rcases hk with hk | hk
      · exact HDS.out _ (.inl rfl) hk
      · have := HG.out.root.lt; omega⟩
    have HG1 := Lib.hid hG1
    have HU := Lib.hid hu
    have HFU := Lib.hid hfu
    have q2 := hG1.root.cell 1
    have HS := Lib.hid (SlAt.of_own hG1.own).1
    have HC : Hid (∀ r ∈ g, r.cv.oneCell' = true) := fun r hm => (hG1.ok r hm).ints.one
    simp only [List.getElem?_cons_zero, List.getElem?_cons_succ] at q2
    clear hG1 hu hfu q1 p0 p1 p2 p3 p4
    have HT : Hid (SlAt w1 5 (.slice (some ⟨b, off, none⟩) j c) j (dvals (g.take j))) := by
      have := HS.out.take (k := j) (c' := c) (by omega) (fun e => by cases e)
      rw [dvals_take] at this
      exact this
    have HO1 : Hid (∀ u ∈ dvals (g.take j), u.oneCell' = true) := dvals_one fun r hr => HC.out r (List.mem_of_mem_take hr)
    have HO2 : Hid (∀ u ∈ dvals (g.drop (j + 1)), u.oneCell' = true) := dvals_one fun r hr => HC.out r (List.mem_of_mem_drop hr)
    have HX : (c = j + 1 ∧ g.length = j + 1 ∧ Hid (SlAt w1 5 (.slice (some ⟨b, off, none⟩) 0 0) 0 (dvals (g.drop (j + 1))))) ∨ (c ≠ j + 1 ∧ True ∧ Hid (SlAt w1 5 (.slice (some (Addr.add ⟨b, off, none⟩ ((j + 1) * 5))) (g.length - (j + 1)) (c - (j + 1))) (g.length - (j + 1)) (dvals (g.drop (j + 1))))) := by
      have := HS.out.drop (k := j + 1) (by omega) hc
      rw [dvals_drop] at this
      by_cases hc1 : c = j + 1
      · rw [if_pos hc1, show c - (j + 1) = 0 by omega, show g.length - (j + 1) = 0 by omega] at this
        exact .inl ⟨hc1, by omega, this⟩
      · rw [if_neg hc1] at this
        exact .inr ⟨hc1, trivial, this⟩
    have hjw : wrap64 ((j : Int) + 1) = (j : Int) + 1 := by unfold wrap64; omega
    rcases HX with ⟨hc1, hc2, HD2⟩ | ⟨hc1, hc2, HD2⟩
    · subst hc1
      go_wp2_with (first
        | (at_builtin
           refine wpList_app _ rfl _ _ _ rfl slD (.slice none 0 0) rfl (World.ownsRow_nil _ _ _ _) _ rfl HT.out HO1.out (by omega) ?_
           intro a2 c2 w2 ho hg hat
           have hf2 := Fr.app0 (Fr.refl w1 Nil) hg
           have q3 := hf2.cell q2 (fun h => h)
           rw [Nat.zero_add] at ho hat
           have Ho := Lib.hid ho
           have Hat := Lib.hid (fresh_of hat)
           clear ho hat hg)
        | (at_builtin
           refine wpList_app _ rfl _ _ _ rfl slD (.slice a2 j c2) rfl Ho.out _ rfl (HD2.out.fr0 hf2) HO2.out (by omega) ?_
           intro a3 c3 w3 ho3 hg3 hat3
           have hf3 := Fr.app hf2 hg3 Hat.out
           have hB := HG1.out.root.fr hf3 (fun h => h)
           have q4 := hB.cell 1
           have q5 := hB.free 1))
      have Ho3 := Lib.hid ho3
      have Hat3 := Lib.hid (fresh_of2 hat3 Hat.out hf2.size)
      have Hf3 := Lib.hid hf3
      clear ho3 hat3 hf3 hg3 hB q4 q5
      go_ret
      have ho := Ho3.out
      rw [List.nil_append, ← dvals_append] at ho
      have hmem : ∀ y ∈ g.take j ++ g.drop (j + 1), y ∈ g := fun y hy => by
        rw [List.mem_append] at hy
        exact hy.elim List.mem_of_mem_take List.mem_of_mem_drop
      have hlen : (g.take j ++ g.drop (j + 1)).length = j + (g.length - (j + 1)) := by
        simp only [List.length_append, List.length_take, List.length_drop]; omega
      exact back_fin HG.out HDS.out HG1.out hmem HBL.out H5.out HU.out HFU.out Hf3.out (own_cast ho (by rw [hlen]; omega)) Hat3.out HQL.out (RefAt.lt HR.out)
    · go_wp2_with (first
        | (at_builtin
           refine wpList_app _ rfl _ _ _ rfl slD (.slice none 0 0) rfl (World.ownsRow_nil _ _ _ _) _ rfl HT.out HO1.out (by omega) ?_
           intro a2 c2 w2 ho hg hat
           have hf2 := Fr.app0 (Fr.refl w1 Nil) hg
           have q3 := hf2.cell q2 (fun h => h)
           rw [Nat.zero_add] at ho hat
           have Ho := Lib.hid ho
           have Hat := Lib.hid (fresh_of hat)
           clear ho hat hg)
        | (at_builtin
           refine wpList_app _ rfl _ _ _ rfl slD (.slice a2 j c2) rfl Ho.out _ rfl (HD2.out.fr0 hf2) HO2.out (by omega) ?_
           intro a3 c3 w3 ho3 hg3 hat3
           have hf3 := Fr.app hf2 hg3 Hat.out
           have hB := HG1.out.root.fr hf3 (fun h => h)
           have q4 := hB.cell 1
           have q5 := hB.free 1))
      have Ho3 := Lib.hid ho3
      have Hat3 := Lib.hid (fresh_of2 hat3 Hat.out hf2.size)
      have Hf3 := Lib.hid hf3
      clear ho3 hat3 hf3 hg3 hB q4 q5
      go_ret
      have ho := Ho3.out
      rw [List.nil_append, ← dvals_append] at ho
      have hmem : ∀ y ∈ g.take j ++ g.drop (j + 1), y ∈ g := fun y hy => by
        rw [List.mem_append] at hy
        exact hy.elim List.mem_of_mem_take List.mem_of_mem_drop
      have hlen : (g.take j ++ g.drop (j + 1)).length = j + (g.length - (j + 1)) := by
        simp only [List.length_append, List.length_take, List.length_drop]; omega
      exact back_fin HG.out HDS.out HG1.out hmem HBL.out H5.out HU.out HFU.out Hf3.out (own_cast ho (by rw [hlen])) Hat3.out HQL.out (RefAt.lt HR.out)
end Go.Proofs.Ytjpenaodkfljhaa
