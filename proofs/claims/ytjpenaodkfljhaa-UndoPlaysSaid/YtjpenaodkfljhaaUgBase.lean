/-
  The document's log (interlockref14) in memory; New, last, Undo.
  No condition but sizes.
-/
import Derived.Test.YtjpenaodkfljhaaUdState
namespace Go.Proofs.Ytjpenaodkfljhaa
open Go Go.RowKit

structure DEnt where
  who : Int
  table : Int
  key : Int
  cv : Value
  cols : List Int
  sm : Bool
abbrev DEnt.vals (e : DEnt) : List Value := [.int .i64 e.who, .int .i64 e.table, .int .i64 e.key, e.cv, .bool e.sm]
def DEnt.mod (e : DEnt) : Int × Ent := (e.who, (e.table, e.key, if e.sm then some e.cols else none))
def dvals (g : List DEnt) : List Value := g.flatMap DEnt.vals
def dmods (g : List DEnt) : List (Int × Ent) := g.map DEnt.mod
theorem dvals_len (g : List DEnt) : (dvals g).length = g.length * 5 := flat_len (f := DEnt.vals) (n := 5) (fun _ => rfl) g
theorem dvals_append (a b : List DEnt) : dvals (a ++ b) = dvals a ++ dvals b := by simp [dvals]
theorem dvals_take (g : List DEnt) (k : Nat) : (dvals g).take (k * 5) = dvals (g.take k) := by
  induction g generalizing k with
  | nil => simp [dvals]
  | cons r g ih =>
    cases k with
    | zero => simp [dvals]
    | succ k =>
      rw [List.take_succ_cons]
      show (r.vals ++ dvals g).take ((k + 1) * 5) = r.vals ++ dvals (g.take k)
      rw [List.take_append, List.take_of_length_le (by simp; omega), ← ih]
      congr 2
      simp; omega
theorem dvals_drop (g : List DEnt) (k : Nat) : (dvals g).drop (k * 5) = dvals (g.drop k) := by
  induction g generalizing k with
  | nil => simp [dvals]
  | cons r g ih =>
    cases k with
    | zero => simp [dvals]
    | succ k =>
      rw [List.drop_succ_cons]
      show (r.vals ++ dvals g).drop ((k + 1) * 5) = dvals (g.drop k)
      rw [List.drop_append, List.drop_eq_nil_of_le (by simp; omega), List.nil_append, ← ih]
      congr 1
      simp; omega
theorem dvals_one {g : List DEnt} (h : ∀ e ∈ g, e.cv.oneCell' = true) : ∀ u ∈ dvals g, u.oneCell' = true := by
  intro u hu
  simp only [dvals, List.mem_flatMap, DEnt.vals] at hu
  obtain ⟨r, hr, hu⟩ := hu
  simp only [List.mem_cons, List.not_mem_nil, or_false] at hu
  rcases hu with rfl | rfl | rfl | rfl | rfl
  · rfl
  · rfl
  · rfl
  · exact h r hr
  · rfl
theorem slD : SlT Try.prog 122 133 5 56 :=
  SlT.mk (z := .agg #[.int .i64 0, .int .i64 0, .int .i64 0, .slice none 0 0, .bool false]) Try.underlying122 (by kernel_rfl) (by rfl) (by decide) (by decide)
theorem sl_dent (w : World) (e : TypeId) (g : DEnt) : SlAt (w.alloc (.cells g.vals.toArray e)) 5 (.slice (some ⟨w.heap.size, 0, none⟩) 1 1) 1 (dvals [g]) :=
  ⟨rfl, .inr ⟨_, 1, rfl, fun j u hu => by
    rw [Addr.add_lit, Nat.zero_add, (Bk.new w e g.vals.toArray).cell j]
    simpa [dvals] using hu⟩⟩
structure DOk (w : World) (e : DEnt) : Prop where
  own : OwnInts w 2 e.cv e.cols
  len : e.cols.length ≤ 1000000
theorem DOk.ints {w : World} {e : DEnt} (h : DOk w e) : IntsAt w e.cv e.cols := h.own.at
theorem DOk.fr {w w' : World} {e : DEnt} {S : Nat → Prop} (h : DOk w e) (hf : Fr w w' S) (hd : ∀ k, e.cv.ownBlock = some k → ¬ S k) : DOk w' e := ⟨h.own.fr hf hd, h.len⟩
structure DLogG (w : World) (lb : Nat) (most : Int) (lv : Value) (g : List DEnt) : Prop where
  root : Bk w lb 124 [.int .i64 most, lv]
  own : w.ownsRow 0 133 5 lv g.length (dvals g)
  ok : ∀ e ∈ g, DOk w e
  neL : ∀ k, lv.ownBlock = some k → k ≠ lb
  neC : ∀ e ∈ g, ∀ k, e.cv.ownBlock = some k → k ≠ lb ∧ lv.ownBlock ≠ some k
def DHas (lb : Nat) (lv : Value) (g : List DEnt) (k : Nat) : Prop := k = lb ∨ lv.ownBlock = some k ∨ ∃ e ∈ g, e.cv.ownBlock = some k
theorem DLogG.fr {w w' : World} {lb : Nat} {most : Int} {lv : Value} {g : List DEnt} {T : Nat → Prop} (h : DLogG w lb most lv g) (hf : Fr w w' T) (hd : ∀ k, DHas lb lv g k → ¬ T k) : DLogG w' lb most lv g :=
  ⟨h.root.fr hf (hd lb (.inl rfl)), hf.own h.own fun k hk => hd k (.inr (.inl hk)), fun e he => (h.ok e he).fr hf fun k hk => hd k (.inr (.inr ⟨e, he, hk⟩)), h.neL, h.neC⟩
theorem DLogG.shape {w : World} {lb : Nat} {most : Int} {lv : Value} {g : List DEnt} (h : DLogG w lb most lv g) : ∃ a c, lv = .slice a g.length c ∧ g.length ≤ c := by
  obtain ⟨a, c, rfl⟩ := (SlAt.of_own h.own).1.shape
  exact ⟨a, c, rfl, (SlAt.of_own h.own).2 _ _ _ rfl⟩
theorem DLogG.cells {w : World} {lb : Nat} {most : Int} {lv : Value} {g : List DEnt} (h : DLogG w lb most lv g) {i : Nat} {r : DEnt} (hr : g[i]? = some r) :
    ∃ b off cap, lv = .slice (some ⟨b, off, none⟩) g.length cap ∧ w.cell? ⟨b, off + i * 5, none⟩ = some (.int .i64 r.who) ∧ w.cell? ⟨b, off + i * 5 + 1, none⟩ = some (.int .i64 r.table) ∧ w.cell? ⟨b, off + i * 5 + 2, none⟩ = some (.int .i64 r.key) ∧ w.cell? ⟨b, off + i * 5 + 3, none⟩ = some r.cv ∧ w.cell? ⟨b, off + i * 5 + 4, none⟩ = some (.bool r.sm) := by
  have hi := (List.getElem?_eq_some_iff.1 hr).1
  obtain ⟨b, off, cap, rfl, hc⟩ := flat_form (f := DEnt.vals) (n := 5) (fun _ => rfl) (by decide) (SlAt.of_own h.own).1 (by omega)
  exact ⟨b, off, cap, rfl, hc i r hr 0 _ rfl, hc i r hr 1 _ rfl, hc i r hr 2 _ rfl, hc i r hr 3 _ rfl, hc i r hr 4 _ rfl⟩
def DLogAt (w : World) (lb : Nat) (most : Int) (L : List (Int × Ent)) (S : Nat → Prop) : Prop :=
  ∃ lv g, DLogG w lb most lv g ∧ dmods g = L ∧ (∀ k, DHas lb lv g k → S k) ∧ ∀ k, S k → k < w.heap.size
theorem DLogAt.fr {w w' : World} {lb : Nat} {most : Int} {L : List (Int × Ent)} {S T : Nat → Prop} (h : DLogAt w lb most L S) (hf : Fr w w' T) (hd : ∀ k, S k → ¬ T k) : DLogAt w' lb most L S := by
  obtain ⟨lv, g, h1, h2, h3, h4⟩ := h
  exact ⟨lv, g, h1.fr hf fun k hk => hd k (h3 k hk), h2, h3, fun k hk => Nat.lt_of_lt_of_le (h4 k hk) hf.size⟩
def dlogT (lb : Nat) (most : Int) (L : List (Int × Ent)) : Thing where
  At w S := DLogAt w lb most L S
  fr h hf hd := h.fr hf hd
  lt h := by obtain ⟨lv, g, _, _, _, h4⟩ := h; exact h4
/-- The list is another one. -/
theorem DLogG.store {w w3 : World} {lb : Nat} {most : Int} {lv lv' : Value} {g g' : List DEnt} (h : DLogG w lb most lv g) (hf : Fr w w3 (fun k => lv.ownBlock = some k)) (ho : w3.ownsRow 0 133 5 lv' g'.length (dvals g'))
    (hn : ∀ k, lv'.ownBlock = some k → k ≠ lb) (hok : ∀ e ∈ g', DOk w3 e ∧ ∀ k, e.cv.ownBlock = some k → k ≠ lb ∧ lv'.ownBlock ≠ some k) :
    DLogG (w3.setCell ⟨lb, 1, none⟩ lv') lb most lv' g' ∧ Fr w (w3.setCell ⟨lb, 1, none⟩ lv') (fun k => k = lb ∨ lv.ownBlock = some k) := by
  have hst : Fr w3 (w3.setCell ⟨lb, 1, none⟩ lv') (fun k => k = lb) := Fr.store w3 lb 1 lv'
  refine ⟨⟨(h.root.fr hf fun hk => h.neL lb hk rfl).set 1 lv', hst.own ho hn, fun e he => (hok e he).1.fr hst fun k hk => ((hok e he).2 k hk).1, hn, fun e he k hk => (hok e he).2 k hk⟩, ?_⟩
  exact (hf.mono fun k _ hk => .inr hk).trans hst fun k _ hk => .inl hk
def DNewRet (most : Int) (w : World) (e : Ending) (w' : World) : Prop := ∃ lb, e = .returned (rptr lb) ∧ DLogG w' lb (max 0 most) (.slice none 0 0) [] ∧ lb = w.heap.size ∧ w'.heap.size = lb + 1 ∧ Fr w w' Nil
set_option maxRecDepth 100000 in
set_option maxHeartbeats 1000000 in
theorem dnew_any (most : Int) (w : World) : Calls Try.prog 27 #[.int .i64 most] w (DNewRet most w) := by
  go_enter Try.func27, Try.ntmps27
  go_wp2_with fail
  go_ret
  refine ⟨w.heap.size, ?_, ⟨Bk.new _ _ _, World.ownsRow_nil _ _ _ _, (fun _ h => by cases h), (fun _ h => by cases h), (fun _ h => by cases h)⟩, rfl, by simp, (Fr.refl w Nil).alloc _⟩
  rfl
set_option maxRecDepth 100000 in
set_option maxHeartbeats 1000000 in
theorem dlast_any {lb : Nat} {most : Int} {lv : Value} {g : List DEnt} (who : Int) (w : World) (h : DLogG w lb most lv g) (hl : g.length ≤ 100000) :
    Calls Try.prog 99 #[rptr lb, .int .i64 who] w fun e w' => e = .returned (.int .i64 (lastI (dmods g) who g.length)) ∧ w = w' := by
  obtain ⟨a, c, rfl, hc⟩ := h.shape
  have q1 := h.root.cell 1
  have HG := Lib.hid h
  clear h
  simp only [List.getElem?_cons_zero, List.getElem?_cons_succ] at q1
  go_enter Try.func99, Try.ntmps99
  go_wp2_with fail
  go_loopw [5] (fun vi wr => ∃ n : Nat, n ≤ g.length ∧ vi = .int .i64 ((n : Int) - 1) ∧ lastI (dmods g) who g.length = lastI (dmods g) who n ∧ wr = w) (fun vi _ => ((intOf vi) + 1).toNat)
  case atStart => exact ⟨g.length, Nat.le_refl _, by go_num, rfl, rfl⟩
  case round =>
    obtain ⟨n, hn, rfl, hlast, rfl⟩ := hrel
    have HLa := Lib.hid hlast
    clear hlast
    cases n with
    | zero =>
      go_wp2_with fail
      go_ret
      exact ⟨by rw [HLa.out]; rfl, rfl⟩
    | succ m =>
      have hlt : m < g.length := hn
      have hgt := List.getElem?_eq_getElem hlt
      generalize g[m] = t at hgt
      obtain ⟨b, off, cap, hv, p0, p1, p2, p3, p4⟩ := HG.out.cells hgt
      simp only [Value.slice.injEq, true_and] at hv
      obtain ⟨rfl, rfl⟩ := hv
      have hm1 : (((m + 1 : Nat) : Int) - 1) = (m : Int) := by omega
      rw [hm1]
      have hmd : (dmods g)[m]? = some t.mod := by unfold dmods; rw [List.getElem?_map, hgt]; rfl
      have HLb : Hid (lastI (dmods g) who (m + 1) = if t.who == who then (m : Int) else lastI (dmods g) who m) := lastI_succ hmd
      have hmi : (m : Int) < (g.length : Int) := by omega
      clear hgt hmd p1 p2 p3 p4
      by_cases hw : t.who = who
      · have hw2 : (t.who == who) = true := by rw [beq_iff_eq]; exact hw
        have HW := Lib.hid hw2
        clear hw2
        subst hw
        go_wp2_with fail
        go_ret
        exact ⟨by rw [HLa.out, HLb.out, HW.out]; rfl, rfl⟩
      · have hw2 : (t.who == who) = false := by rw [beq_eq_false_iff_ne]; exact hw
        have HW := Lib.hid hw2
        go_wp2_with fail
        go_roundw
        case rel => exact ⟨m, by omega, by go_num, by rw [HLa.out, HLb.out, HW.out]; rfl, trivial⟩
        case measure => simp only [intOf]; omega
theorem colsN_undo (M : List MTab) (e : Ent) : colsN (undoE M e) = colsN M := by
  unfold undoE
  split
  · exact colsN_del _ _ _
  · exact colsN_put _ _ _ _
set_option maxRecDepth 100000 in
set_option maxHeartbeats 1000000 in
theorem dundo_any {qb N : Nat} {M : List MTab} {S : Nat → Prop} (e : DEnt) (w : World) (h : RefAt w qb (colsN M) (flatM M) S) (hg : Good M) (hf : Few N M) (hN : N < 1000) (he : DOk w e) (hq : ∀ k, e.cv.ownBlock = some k → k ≠ qb) :
    Calls Try.prog 100 #[.agg #[.int .i64 e.who, .int .i64 e.table, .int .i64 e.key, e.cv, .bool e.sm], rptr qb] w fun x w' => x = .returned (.tuple #[]) ∧ RefUpd w qb (colsN (undoE M e.mod.2)) (flatM (undoE M e.mod.2)) S w' := by
  obtain ⟨who, t, k, cv, xs, sm⟩ := e
  have hi := he.ints
  have hlen := he.len
  clear he
  simp only at hi hlen hq ⊢
  obtain ⟨a, c, rfl⟩ := hi.shape
  have HI := Lib.hid hi
  have HQ := Lib.hid hq
  have H := Lib.hid h
  have HK := Lib.hid (qok_flat hg hf (by omega))
  have HB : Bk (w.alloc (.cells #[.int .i64 who, .int .i64 t, .int .i64 k, .slice a xs.length c, .bool sm] 133)) w.heap.size 133 [.int .i64 who, .int .i64 t, .int .i64 k, .slice a xs.length c, .bool sm] := Bk.new w _ _
  have y1 := HB.cell 1
  have y2 := HB.cell 2
  have y3 := HB.cell 3
  have y4 := HB.cell 4
  simp only [List.getElem?_cons_zero, List.getElem?_cons_succ] at y1 y2 y3 y4
  have HF := Lib.hid ((Fr.refl w Nil).alloc (.cells #[.int .i64 who, .int .i64 t, .int .i64 k, .slice a xs.length c, .bool sm] 133))
  clear hi h HB
  have HS := Lib.hid (RefUpd.same H.out HF.out)
  rw [colsN_undo]
  cases sm with
  | true =>
    have HP : Hid (qput (colsN M) (flatM M) t k xs = flatM (mput M t k xs).1) := rel_put hg t k xs (good_put hg hf (by omega) t k xs).1
    go_enter Try.func100, Try.ntmps100
    go_wp2_with fail
    refine (rput_any t k _ xs _ HS.out.1 HK.out (HI.out.fr HF.out fun _ _ h => h) (fun _ j hj => HQ.out j hj) hlen).mono ?_
    rintro x w2 ⟨rfl, hu⟩
    rw [HP.out] at hu
    have HU := Lib.hid (RefUpd.trans HS.out.2 hu)
    clear hu
    go_wp2_with fail
    go_end0
    exact ⟨rfl, HU.out⟩
  | false =>
    have HP : Hid (qdel (flatM M) t k = flatM (mdel M t k).1) := rel_del hg t k (good_del hg hf t k).1
    go_enter Try.func100, Try.ntmps100
    go_wp2_with fail
    refine (rdel_any t k _ HS.out.1 HK.out).mono ?_
    rintro x w2 ⟨rfl, hu⟩
    rw [HP.out] at hu
    have HU := Lib.hid (RefUpd.trans HS.out.2 hu)
    clear hu
    go_wp2_with fail
    go_end0
    exact ⟨rfl, HU.out⟩
end Go.Proofs.Ytjpenaodkfljhaa
