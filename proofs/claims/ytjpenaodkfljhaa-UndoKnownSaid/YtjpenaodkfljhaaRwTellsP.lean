/-
  What the tables and the document's rows tell of a table, side by side.
  No condition.
-/
import Derived.Test.YtjpenaodkfljhaaRfRel2
namespace Go.Proofs.Ytjpenaodkfljhaa
open Go Go.RowKit

/-- The blocks of the values of the rows ahead of number i. -/
def Spoilt (g : List GRow) (i : Nat) : Nat → Prop := fun k => ∃ j r, j < i ∧ g[j]? = some r ∧ r.cv.ownBlock = some k
theorem spoilt_at {B : Nat} {w : World} {lv : Value} {g : List GRow} {i : Nat} {r : GRow} (h : NewRL B w lv g) (hr : g[i]? = some r) :
    (∀ k, lv.ownBlock = some k → ¬ Spoilt g g.length k) ∧ (∀ k, r.cv.ownBlock = some k → ¬ Spoilt g i k) := by
  have hn := h.nodup
  unfold rlBlocks at hn
  constructor
  · rintro k hk ⟨j, x, _, hx, hxk⟩
    have := (List.nodup_append.1 hn).2.2 k (by simp [hk]) k (List.mem_flatMap.2 ⟨x, List.mem_of_getElem? hx, by simp [hxk]⟩)
    exact this rfl
  · rintro k hk ⟨j, x, hj, hx, hxk⟩
    have hn2 := (List.nodup_append.1 hn).2.1
    obtain ⟨hs, _⟩ := split_at hr
    rw [hs, List.flatMap_append] at hn2
    have hx' : x ∈ g.take i := List.mem_of_getElem? (i := j) (by rw [List.getElem?_take, if_pos hj]; exact hx)
    have := (List.nodup_append.1 hn2).2.2 k (List.mem_flatMap.2 ⟨x, hx', by simp [hxk]⟩) k (by rw [List.flatMap_cons]; simp [hk])
    exact this rfl
theorem spoilt_mono {g : List GRow} {i j : Nat} (h : i ≤ j) : ∀ k, Spoilt g i k → Spoilt g j k := fun k ⟨a, r, h1, h2⟩ => ⟨a, r, by omega, h2⟩
theorem spoilt_new {B : Nat} {w : World} {lv : Value} {g : List GRow} {i k : Nat} (h : NewRL B w lv g) (hs : Spoilt g i k) : B ≤ k ∧ k < w.heap.size := by
  obtain ⟨j, r, _, hr, hk⟩ := hs
  have hm : k ∈ rlBlocks lv g := by
    unfold rlBlocks
    exact List.mem_append_right _ (List.mem_flatMap.2 ⟨r, List.mem_of_getElem? hr, by simp [hk]⟩)
  exact ⟨h.new k hm, h.rl.lt k hm⟩
theorem spoilt_step {w w1 w2 : World} {g : List GRow} {i : Nat} {r : GRow} (hr : g[i]? = some r) (h : Fr w w1 (Spoilt g i)) (h2 : Fr w1 w2 (fun k => r.cv.ownBlock = some k ∨ w.heap.size ≤ k)) : Fr w w2 (Spoilt g (i + 1)) :=
  (h.mono fun k _ hk => spoilt_mono (Nat.le_succ i) k hk).trans h2 fun k hlt hk => by
    rcases hk with hk | hk
    · exact ⟨i, r, by omega, hr, hk⟩
    · omega
/-- What a row of the list is, where the rows ahead of it are spoilt. -/
theorem spoilt_row {B : Nat} {w w1 : World} {b cap : Nat} {g : List GRow} {i : Nat} {r : GRow} (h : NewRL B w (.slice (some ⟨b, 0, none⟩) g.length cap) g) (hf : Fr w w1 (Spoilt g i)) (hr : g[i]? = some r) :
    w1.cell? ⟨b, i * 2, none⟩ = some (.int .i64 r.key) ∧ w1.cell? ⟨b, i * 2 + 1, none⟩ = some r.cv ∧ OwnInts w1 2 r.cv r.cols := by
  have hi := (List.getElem?_eq_some_iff.1 hr).1
  obtain ⟨h1, h2⟩ := spoilt_at h hr
  have hb : ¬ Spoilt g i b := fun hs => h1 b rfl (spoilt_mono (by omega) b hs)
  exact ⟨hf.cell (h.rl.key i r hr) hb, hf.cell (h.rl.cv i r hr) hb, (h.rl.cols r (List.mem_of_getElem? hr)).fr hf h2⟩
theorem spoilt_w {B : Nat} {w w1 w2 : World} {lv : Value} {g : List GRow} {i : Nat} (h : Fr w w1 Nil) (hn : NewRL B w1 lv g) (hB : w.heap.size ≤ B) (hf : Fr w1 w2 (Spoilt g i)) : Fr w w2 Nil :=
  h.trans hf fun j hlt hj => by have := (spoilt_new hn hj).1; omega
theorem spoilt_q {w w1 : World} {lv : Value} {g : List GRow} {g2 : List QRow} {i : Nat} (h : QL w lv g2) (hf : Fr w w1 (Spoilt g i)) (hd : ∀ j, Spoilt g g.length j → lv.ownBlock ≠ some j ∧ ∀ x ∈ g2, x.cv.ownBlock ≠ some j) (hi : i ≤ g.length) : QL w1 lv g2 :=
  h.fr hf (fun k hk hs => (hd k (spoilt_mono hi k hs)).1 hk) fun r hr k hk hs => (hd k (spoilt_mono hi k hs)).2 r hr hk
/-- What is got, and the row's values, lie in other blocks, and the list in none of both. -/
theorem tells_ne {B : Nat} {w w1 : World} {b cap : Nat} {g : List GRow} {i : Nat} {r : GRow} {v x : Value} (h : NewRL B w (.slice (some ⟨b, 0, none⟩) g.length cap) g) (hf : Fr w w1 (Spoilt g i)) (hr : g[i]? = some r) (hv : r.cv.ownBlock = v.ownBlock) (hx : NewFrom w1.heap.size x) :
    (∀ k, x.ownBlock = some k → v.ownBlock ≠ some k ∧ k ≠ b) ∧ (∀ k, v.ownBlock = some k → k ≠ b) ∧ (∀ k, x.ownBlock = some k → w.heap.size ≤ k) := by
  have hi := (List.getElem?_eq_some_iff.1 hr).1
  have s := hf.size
  have hvl : ∀ k, v.ownBlock = some k → k < w.heap.size := fun k hk => (h.rl.cols r (List.mem_of_getElem? hr)).lt k (hv ▸ hk)
  have hb : b < w.heap.size := (World.ownsRow.lt h.rl.own b rfl).2
  refine ⟨fun k hk => ⟨fun e => ?_, fun e => ?_⟩, fun k hk e => ?_, fun k hk => ?_⟩
  · have := hx k hk; have := hvl k e; omega
  · have := hx k hk; omega
  · exact (spoilt_at h hr).1 b rfl ⟨i, r, hi, hr, by rw [hv, hk, e]⟩
  · have := hx k hk; omega
theorem tells_len {M : List MTab} {t : Int} {g : List GRow} {g2 : List QRow} (h1 : rowsOf g = (mtab M t).2) (h2 : qrows g2 = (mtab M t).2.map fun r => (t, r.1, r.2)) : g2.length = g.length ∧ (mtab M t).2.length = g.length := by
  have e1 := congrArg List.length h1
  have e2 := congrArg List.length h2
  simp [rowsOf, qrows] at e1 e2
  exact ⟨by omega, by omega⟩
theorem find_key {l : List (Int × List Int)} {k : Int} {xs : List Int} (hp : l.Pairwise fun a b => a.1 < b.1) (hm : (k, xs) ∈ l) : l.find? (fun r => r.1 == k) = some (k, xs) := by
  induction l with
  | nil => cases hm
  | cons a l ih =>
    rw [List.pairwise_cons] at hp
    rcases List.mem_cons.1 hm with rfl | h
    · rw [List.find?_cons_of_pos (by simp)]
    · have := hp.1 _ h
      rw [List.find?_cons_of_neg (by simp only at this; simp; omega)]
      exact ih hp.2 h
theorem mget_of_mem {T : MTab} (h : GoodT T) {k : Int} {xs : List Int} (hm : (k, xs) ∈ T.2) : mget T k = some xs := by
  unfold mget
  rw [find_key h.sorted hm]
  rfl
theorem tells_row {M : List MTab} {t : Int} {g : List GRow} {g2 : List QRow} {i : Nat} {r : GRow} {q : QRow} (hg : Good M) (h1 : rowsOf g = (mtab M t).2) (h2 : qrows g2 = (mtab M t).2.map fun r => (t, r.1, r.2)) (hr : g[i]? = some r) (hq : g2[i]? = some q) :
    q.key = r.key ∧ q.cols = r.cols ∧ mget (mtab M t) r.key = some r.cols ∧ r.cols.length ≤ 1000000 := by
  rw [← h1] at h2
  have e : (qrows g2)[i]? = some (t, r.key, r.cols) := by rw [h2]; simp [rowsOf, hr]
  have e2 : (qrows g2)[i]? = some q.mod := by simp [qrows, hq]
  rw [e2] at e
  have e := Option.some.inj e
  have k1 : q.key = r.key := congrArg (fun x : QR => x.2.1) e
  have k2 : q.cols = r.cols := congrArg (fun x : QR => x.2.2) e
  have hm : (r.key, r.cols) ∈ (mtab M t).2 := by rw [← h1]; exact List.mem_map.2 ⟨r, List.mem_of_getElem? hr, rfl⟩
  have hgt := hg.at t
  refine ⟨k1, k2, ?_, ?_⟩
  · exact mget_of_mem hgt hm
  · have h3 : r.cols.length = (mtab M t).1 := hgt.width _ hm
    have := hgt.le
    omega
end Go.Proofs.Ytjpenaodkfljhaa
