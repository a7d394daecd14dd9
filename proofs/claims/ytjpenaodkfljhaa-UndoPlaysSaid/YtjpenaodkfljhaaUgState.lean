/-
  The document's log and rows as things that lie apart.
  No condition but sizes.
-/
import Derived.Test.YtjpenaodkfljhaaUgTells
import Derived.Test.YtjpenaodkfljhaaUdInv
namespace Go.Proofs.Ytjpenaodkfljhaa
open Go Go.RowKit

abbrev refM (qb : Nat) (M : List MTab) : Thing := refT qb (colsN M) (flatM M)
theorem DHas.lt' {w : World} {lb : Nat} {most : Int} {lv : Value} {g : List DEnt} (h : DLogG w lb most lv g) {k : Nat} (hk : DHas lb lv g k) : k < w.heap.size := by
  rcases hk with rfl | hk | ⟨e, he, hk⟩
  · exact h.root.lt
  · exact (World.ownsRow.lt h.own k hk).2
  · exact (h.ok e he).own.lt k hk
theorem DUpd.at {w w' : World} {lb : Nat} {most : Int} {lv : Value} {g : List DEnt} {L' : List (Int × Ent)} {S : Nat → Prop} (h : DUpd w lb most lv g L' w') (hS : ∀ k, DHas lb lv g k → S k) (hlt : ∀ k, S k → k < w.heap.size) :
    DLogAt w' lb most L' (Gr S w w') ∧ Fr w w' S := by
  obtain ⟨lv', g', h1, h2, h3, h4⟩ := h
  have hsz := h4.size
  refine ⟨⟨lv', g', h1, h2, fun k hk => ?_, fun k hk => hk.elim (fun h => by have := hlt k h; omega) (·.2)⟩, h4.mono fun k _ hk => ?_⟩
  · rcases h3 k hk with h | h
    · exact .inl (hS k h)
    · exact .inr ⟨h, DHas.lt' h1 hk⟩
  · exact hS k (hk.elim .inl fun h => .inr (.inl h))
def ColsNew (t n : Int) (w : World) (e : Ending) (w' : World) : Prop := ∃ v, e = .returned v ∧ IntsAt w' v (colsU t n) ∧ (∀ k, v.ownBlock = some k → w.heap.size ≤ k) ∧ Fr w w' Nil
set_option maxRecDepth 100000 in
set_option maxHeartbeats 1000000 in
theorem cols_new (t n : Int) (w : World) : Calls Try.prog 31 #[.int .i64 t, .int .i64 n] w (ColsNew t n w) := by
  by_cases h0 : t = 0
  · subst h0
    have H := Lib.hid (intsAt_bk (n := 2) (cap := 2) (xs := [n, n]) (Bk.new w 2 #[.int .i64 n, .int .i64 n]) rfl)
    go_enter Try.func31, Try.ntmps31
    go_wp2_with fail
    go_ret
    exact ⟨_, rfl, H.out, (fun k hk => by cases hk; exact Nat.le_refl _), (Fr.refl w Nil).alloc _⟩
  · have H := Lib.hid (intsAt_bk (n := 1) (cap := 1) (xs := [n]) (Bk.new w 2 #[.int .i64 n]) rfl)
    have H0 := Lib.hid h0
    go_enter Try.func31, Try.ntmps31
    go_wp2_with fail
    go_ret
    refine ⟨_, rfl, ?_, (fun k hk => by cases hk; exact Nat.le_refl _), (Fr.refl w Nil).alloc _⟩
    unfold colsU
    rw [if_neg H0.out]
    exact H.out
section
variable {w0 W : World} {l : List Thing}
theorem Lies.qlt (h : Lies w0 W l) {qb : Nat} {M : List MTab} (j : Nat) (hj : l[j]? = some (refM qb M)) : qb < W.heap.size := by
  obtain ⟨S, h1, _⟩ := h.get j _ hj
  exact RefAt.lt h1 _ (ref_in h1)
theorem st_qput (h : Lies w0 W l) {qb N : Nat} {M : List MTab} (j : Nat) (hj : l[j]? = some (refM qb M)) (t k : Int) (v : Value) (xs : List Int) (hg : Good M) (hf : Few N M) (hN : N < 1000) (hv : IntsAt W v xs) (hvb : ∀ k, v.ownBlock = some k → k ≠ qb) (hvl : xs.length ≤ 1000000) :
    Calls Try.prog 46 #[rptr qb, .int .i64 t, .int .i64 k, v] W fun e W' => e = .returned (.bool (qmay (colsN M) t xs)) ∧ Lies w0 W' (l.set j (refM qb (mput M t k xs).1)) := by
  obtain ⟨S, h1, _, h2⟩ := h.get j _ hj
  refine (rput_any t k v xs W h1 (qok_flat hg hf (by omega)) hv (fun _ => hvb) hvl).mono fun _ W' ⟨he, a, b⟩ => ⟨he, ?_⟩
  rw [rel_put hg t k xs (good_put hg hf (by omega) t k xs).1, ← colsN_put M t k xs] at a
  exact h2 W' _ (refM qb (mput M t k xs).1) a (fun k hk => hk.imp id fun h => h.1) (b.mono fun k _ e => by have e : k = qb := e; rw [e]; exact ref_in h1)
theorem st_qdel (h : Lies w0 W l) {qb N : Nat} {M : List MTab} (j : Nat) (hj : l[j]? = some (refM qb M)) (t k : Int) (hg : Good M) (hf : Few N M) (hN : N < 1000) :
    Calls Try.prog 72 #[rptr qb, .int .i64 t, .int .i64 k] W fun e W' => e = .returned (.tuple #[.bool (qhas (flatM M) t k), .bool (qhas (flatM M) t k || decide (0 < qcols (colsN M) t))]) ∧ Lies w0 W' (l.set j (refM qb (mdel M t k).1)) := by
  obtain ⟨S, h1, _, h2⟩ := h.get j _ hj
  refine (rdel_any t k W h1 (qok_flat hg hf (by omega))).mono fun _ W' ⟨he, a, b⟩ => ⟨he, ?_⟩
  rw [rel_del hg t k (good_del hg hf t k).1, ← colsN_del M t k] at a
  exact h2 W' _ (refM qb (mdel M t k).1) a (fun k hk => hk.imp id fun h => h.1) (b.mono fun k _ e => by have e : k = qb := e; rw [e]; exact ref_in h1)
theorem st_dnew (h : Lies w0 W l) (most : Int) : Calls Try.prog 27 #[.int .i64 most] W (StNew w0 l fun b => dlogT b (max 0 most) []) :=
  (dnew_any most W).mono fun _ W' ⟨b, he, hr, hb, hs, hf⟩ => ⟨b, he, h.add (dlogT b (max 0 most) []) (S := fun k => k = b) ⟨_, _, hr, rfl, (fun k hk => by
    rcases hk with rfl | hk | ⟨e, he, _⟩
    · rfl
    · cases hk
    · cases he), fun k hk => by subst hk; omega⟩ (fun k hk => by subst hk; omega) hf⟩
theorem st_dnote (h : Lies w0 W l) {lb qb N : Nat} {most : Int} {L : List (Int × Ent)} {M : List MTab} (i j : Nat) (hi : l[i]? = some (dlogT lb most L)) (hj : l[j]? = some (refM qb M)) (who t k : Int) (hg : Good M) (hf : Few N M) (hN : N < 1000) (hl : L.length ≤ 100000) :
    Calls Try.prog 71 #[rptr lb, .int .i64 who, rptr qb, .int .i64 t, .int .i64 k] W fun e W' => e = .returned (.int .i64 (noteD M most L t)) ∧ Lies w0 W' (l.set i (dlogT lb most (noteL M most L who t k))) := by
  obtain ⟨S, ⟨lv, g, a1, rfl, a3, a4⟩, _, h2⟩ := h.get i _ hi
  obtain ⟨T, b1, _⟩ := h.get j _ hj
  rw [dmods_len] at hl
  refine (dnote_any who t k W a1 b1 hg hf hN hl).mono fun _ W' ⟨he, hu⟩ => ⟨he, ?_⟩
  obtain ⟨c1, c2⟩ := hu.at a3 a4
  exact h2 W' _ (dlogT lb most _) c1 (fun k hk => hk.imp id fun h => h.1) c2
theorem st_dforget (h : Lies w0 W l) {lb : Nat} {most : Int} {L : List (Int × Ent)} (i : Nat) (hi : l[i]? = some (dlogT lb most L)) (who : Int) (hl : L.length ≤ 100000) :
    Calls Try.prog 70 #[rptr lb, .int .i64 who] W fun e W' => e = .returned (.tuple #[]) ∧ Lies w0 W' (l.set i (dlogT lb most (forgetL L who))) := by
  obtain ⟨S, ⟨lv, g, a1, rfl, a3, a4⟩, _, h2⟩ := h.get i _ hi
  rw [dmods_len] at hl
  refine (dforget_any who W a1 hl).mono fun _ W' ⟨he, hu⟩ => ⟨he, ?_⟩
  obtain ⟨c1, c2⟩ := hu.at a3 a4
  exact h2 W' _ (dlogT lb most _) c1 (fun k hk => hk.imp id fun h => h.1) c2
theorem st_dback (h : Lies w0 W l) {lb qb N : Nat} {most : Int} {L : List (Int × Ent)} {M : List MTab} (i j : Nat) (hi : l[i]? = some (dlogT lb most L)) (hj : l[j]? = some (refM qb M)) (hij : i ≠ j) (who : Int) (hg : Good M) (hf : Few N M) (hN : N < 1000) (hl : L.length ≤ 100000) :
    Calls Try.prog 69 #[rptr lb, .int .i64 who, rptr qb] W fun e W' => e = .returned (.bool (!(ofL L who).isEmpty)) ∧ Lies w0 W' ((l.set i (dlogT lb most (backL L who))).set j (refM qb (backM M L who))) := by
  obtain ⟨S, T, ⟨lv, g, a1, rfl, a3, a4⟩, b1, hd, h4⟩ := h.get2 i j _ _ hi hj hij
  rw [dmods_len] at hl
  refine (dback_any who W a1 b1 (fun k hk => hd k (a3 k hk)) hg hf hN hl).mono fun _ W' hb => ?_
  rcases hb with ⟨hn, he, hf2⟩ | ⟨ds, x, hn, he, ⟨lv', g', c1, c2, c3, c4, c5, S', d1, d2, d3⟩, hf2⟩
  · refine ⟨by rw [hn]; exact he, ?_⟩
    rw [back_same hn]
    unfold backM
    rw [hn]
    exact h4 W' S T _ (refM qb M) (DLogAt.fr ⟨lv, g, a1, rfl, a3, a4⟩ hf2 fun _ _ h => h) (RefAt.fr0 b1 hf2) (fun k hk => .inl hk) (fun k hk => .inl hk) hd hf2.of_nil
  · refine ⟨by rw [hn, he]; cases ds <;> rfl, ?_⟩
    unfold backM
    rw [hn, List.getLast?_concat]
    refine h4 W' (DHas lb lv' g') S' (dlogT lb most _) (refM qb (undoE M x)) ⟨lv', g', c1, c2, fun k hk => hk, fun k hk => DHas.lt' c1 hk⟩ d1 (fun k hk => (c3 k hk).imp (a3 k) id) d2 d3 (hf2.mono fun k _ hk => ?_)
    rcases hk with rfl | rfl
    · exact .inl (a3 _ (.inl rfl))
    · exact .inr (ref_in b1)
/-- What tells: nothing is turned. -/
theorem st_tells (h : Lies w0 W l) {lb db rb qb N : Nat} {most : Int} {L : List (Int × Ent)} {M : List MTab} (i1 i2 i3 i4 : Nat) (e1 : l[i1]? = some (logT lb most L)) (e2 : l[i2]? = some (dlogT db most L)) (e3 : l[i3]? = some (rowsT rb M)) (e4 : l[i4]? = some (refM qb M)) (who : Int)
    (hg : Good M) (hf : Few N M) (hN : N + L.length < 800) (hw : (Lit.int .i64 who).wf = true) (hwf : ∀ p ∈ L, (Lit.int .i64 p.1).wf = true) :
    Calls Try.prog 30 #[lptr lb, rptr db, rptr rb, rptr qb, .int .i64 who] W fun e W' => e = .returned (.bool true) ∧ Lies w0 W' l := by
  obtain ⟨S1, a1, _⟩ := h.get i1 _ e1
  obtain ⟨S2, ⟨lv, g, b1, b2, _⟩, _⟩ := h.get i2 _ e2
  obtain ⟨S3, c1, _⟩ := h.get i3 _ e3
  obtain ⟨S4, d1, _⟩ := h.get i4 _ e4
  exact (utells_any who W a1 b1 b2 c1 d1 hg hf hN hw hwf).mono fun _ _ ⟨he, hfr⟩ => ⟨he, h.fr0 hfr⟩
end
end Go.Proofs.Ytjpenaodkfljhaa
