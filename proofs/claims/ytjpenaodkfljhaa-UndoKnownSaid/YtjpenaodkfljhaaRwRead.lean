/-
  Walks of Get, Set, Sum.
  No condition but sizes.
-/
import Derived.Test.YtjpenaodkfljhaaRwBase
namespace Go.Proofs.Ytjpenaodkfljhaa
open Go Go.RowKit

structure GoodT (T : MTab) : Prop where
  sorted : T.2.Pairwise fun a b => a.1 < b.1
  width : ∀ r ∈ T.2, r.2.length = T.1
  le : T.1 ≤ 16
  few : T.2.length ≤ 1000000
theorem goodT_none : GoodT (0, []) := ⟨List.Pairwise.nil, fun r hr => (by cases hr), by decide, by decide⟩
structure Good (M : List MTab) : Prop where
  tabs : ∀ T ∈ M, GoodT T ∧ 1 ≤ T.1
  few : M.length ≤ 64
theorem Good.at {M : List MTab} (h : Good M) (i : Int) : GoodT (mtab M i) := by
  unfold mtab
  split
  · cases hi : M[i.toNat]? with
    | none => exact goodT_none
    | some T => exact (h.tabs T (List.mem_of_getElem? hi)).1
  · exact goodT_none
theorem GoodT.sorted' {t : GTab} (h : GoodT t.mod) : Sorted t.rows := by
  have := h.sorted
  simp only [GTab.mod, List.pairwise_map] at this
  exact this
theorem GoodT.few' {t : GTab} (h : GoodT t.mod) : t.rows.length ≤ 1000000 := by
  have := h.few
  simpa [GTab.mod] using this
theorem GoodT.width' {t : GTab} (h : GoodT t.mod) : ∀ r ∈ t.rows, r.cols.length = t.n := fun r hr =>
  h.width (r.key, r.cols) (by simp only [GTab.mod, List.mem_map]; exact ⟨r, hr, rfl⟩)

def mget (T : MTab) (k : Int) : Option (List Int) := (T.2.find? fun r => r.1 == k).map (·.2)
theorem mget_none {T : MTab} {k : Int} (h : ¬ ∃ r ∈ T.2, r.1 = k) : mget T k = none := by
  unfold mget
  rw [List.find?_eq_none.2 fun r hr hk => h ⟨r, hr, by simpa using hk⟩]
  rfl
theorem sorted_of_lt {g : List GRow} (hs : Sorted g) {k : Int} : (∀ t r, t < lbK g k → g[t]? = some r → r.key < k) ∧ (∀ t r, lbK g k ≤ t → g[t]? = some r → k ≤ r.key) := by
  induction g with
  | nil => exact ⟨fun t r _ h => by simp at h, fun t r _ h => by simp at h⟩
  | cons x g ih =>
    have hx := List.pairwise_cons.1 hs
    have ih := ih hx.2
    by_cases hk : x.key < k
    · have e : lbK (x :: g) k = lbK g k + 1 := by simp [lbK, hk]
      rw [e]
      constructor
      · intro t r ht hr
        cases t with
        | zero => simp at hr; subst hr; exact hk
        | succ t => exact ih.1 t r (by omega) (by simpa using hr)
      · intro t r ht hr
        cases t with
        | zero => omega
        | succ t => exact ih.2 t r (by omega) (by simpa using hr)
    · have e : lbK (x :: g) k = 0 := by simp [lbK, hk]
      rw [e]
      constructor
      · intro t r ht; omega
      · intro t r _ hr
        cases t with
        | zero => simp at hr; subst hr; omega
        | succ t =>
          have := hx.1 r (List.mem_of_getElem? (show g[t]? = some r by simpa using hr))
          omega
theorem lbK_le (g : List GRow) (k : Int) : lbK g k ≤ g.length := by unfold lbK; exact (List.takeWhile_sublist _).length_le
/-- Where the key is, its row is found. -/
theorem row_found {g : List GRow} (hs : Sorted g) {k : Int} (h : ∃ r ∈ g, r.key = k) : ∃ r, g[lbK g k]? = some r ∧ r.key = k := by
  obtain ⟨x, hx, rfl⟩ := h
  obtain ⟨t, ht⟩ := List.getElem?_of_mem hx
  have h1 := sorted_of_lt hs (k := x.key)
  have hlt := (List.getElem?_eq_some_iff.1 ht).1
  by_cases hle : lbK g x.key < t
  · have hb : lbK g x.key < g.length := by omega
    have hr := List.getElem?_eq_getElem hb
    have h2 := h1.2 _ _ (Nat.le_refl _) hr
    have h3 := hs.lt hr ht hle
    omega
  · by_cases he : lbK g x.key = t
    · exact ⟨x, by rw [he]; exact ht, rfl⟩
    · have := h1.1 t x (by omega) ht
      omega
theorem mget_found {t : GTab} (hs : Sorted t.rows) {k : Int} {i : Nat} {r : GRow} (hr : t.rows[i]? = some r) (hk : r.key = k) : mget t.mod k = some r.cols := by
  unfold mget GTab.mod
  subst hk
  simp only [List.find?_map]
  have : t.rows.find? ((fun x : Int × List Int => x.1 == r.key) ∘ fun x : GRow => (x.key, x.cols)) = some r := by
    rw [List.find?_eq_some_iff_getElem]
    refine ⟨by simp, i, (List.getElem?_eq_some_iff.1 hr).1, (List.getElem?_eq_some_iff.1 hr).2, ?_⟩
    intro j hj
    have hjl : j < t.rows.length := by have := (List.getElem?_eq_some_iff.1 hr).1; omega
    have := hs.lt (List.getElem?_eq_getElem hjl) hr hj
    simp; omega
  rw [this]
  rfl

def GetRet (T : MTab) (k : Int) (w : World) (e : Ending) (w' : World) : Prop :=
  (∃ xs, mget T k = some xs ∧ ∃ a cap, e = .returned (.tuple #[.slice a xs.length cap, .bool true]) ∧ Cloned xs w (.slice a xs.length cap) w') ∨
  (mget T k = none ∧ e = .returned (.tuple #[.slice none 0 0, .bool false]) ∧ Fr w w' Nil)
theorem Cloned.after {xs : List Int} {w w1 w' : World} {v : Value} (hf : Fr w w1 Nil) (h : Cloned xs w1 v w') : Cloned xs w v w' :=
  ⟨h.1, fun k hk => Nat.le_trans hf.size (h.2.1 k hk), hf.trans0 h.2.2⟩

set_option maxHeartbeats 400000 in
theorem get_any (R : GRows) (i k : Int) (w : World) (h : RowsAt w R) (hg : Good R.mod) :
    Calls Try.prog 97 #[R.val, .int .i64 i, .int .i64 k] w (GetRet (mtab R.mod i) k w) := by
  have H := Lib.hid h
  have hl : R.tabs.length ≤ 1000000 := by have := hg.few; simp [GRows.mod] at this; omega
  have Hg := Lib.hid (hg.at i)
  clear h hg
  go_enter Try.func97, Try.ntmps97
  go_wp2_with fail
  refine (table_any R i _ H.out hl).mono ?_
  rintro e w1 ⟨t, rfl, ht, hf, hm, _⟩
  rw [← hm] at Hg
  have Hm := Lib.hid hm
  clear hm
  have Ht := Lib.hid ht
  have Hf := Lib.hid hf
  clear ht hf
  go_wp2_with fail
  refine (find_any t k _ Ht.out Hg.out.sorted' Hg.out.few').mono ?_
  rintro e w2 ⟨rfl, hf2⟩
  have Hf2 := Lib.hid hf2
  have Ht2 : Hid (TabAt w2 t) := Ht.out.fr hf2 fun _ _ h => h
  clear hf2
  by_cases hx : ∃ r ∈ t.rows, r.key = k
  · obtain ⟨r, hr, hk⟩ := row_found Hg.out.sorted' hx
    have hlt := (List.getElem?_eq_some_iff.1 hr).1
    rcases Ht2.out.rl.shape with ⟨_, h2⟩ | ⟨b, cap, hlv, _⟩
    · rw [h2] at hlt; simp at hlt
    have hrl := Ht2.out.rl
    rw [hlv] at hrl
    have q0 := Ht2.out.blk.cell 1
    rw [hlv] at q0
    have q1 := hrl.cv _ r hr
    have hc := hrl.cols r (List.mem_of_getElem? hr)
    obtain ⟨a', c', hcv⟩ := hc.shape
    rw [hcv] at q1 hc
    have Hc := Lib.hid hc
    have hwd : r.cols.length ≤ 1000000 := by
      have := Hg.out.width' r (List.mem_of_getElem? hr)
      have h3 := Hg.out.le
      simp only [GTab.mod] at h3
      omega
    have HM := Lib.hid (mget_found Hg.out.sorted' hr hk)
    rw [decide_eq_true hx]
    generalize lbK t.rows k = n at *
    clear hrl hc hcv hr hlv hk hx
    go_wp2_with (go_at_call 62; refine (clone_any _ r.cols _ Hc.out.at hwd).mono ?_; rintro e w3 ⟨a3, c3, rfl, hcl⟩)
    go_ret2
    exact .inl ⟨r.cols, by rw [← Hm.out]; exact HM.out, a3, c3, rfl, hcl.after (Hf.out.trans0 Hf2.out)⟩
  · have HM : Hid (mget t.mod k = none) := mget_none (by
      simp only [GTab.mod, List.mem_map]
      rintro ⟨_, ⟨r, hr, rfl⟩, hk⟩
      exact hx ⟨r, hr, hk⟩)
    rw [decide_eq_false hx]
    clear hx
    go_wp2_with fail
    go_ret2
    exact .inr ⟨by rw [← Hm.out]; exact HM.out, rfl, Hf.out.trans0 Hf2.out⟩

/-- A value of a row is set. -/
def GRow.set (r : GRow) (c : Nat) (x : Int) : GRow := { r with cols := r.cols.set c x }
theorem RL.set {w : World} {lv : Value} {C D : List GRow} {r : GRow} {b cap c : Nat} (h : RL w lv (C ++ r :: D)) (hn : (rlBlocks lv (C ++ r :: D)).Nodup)
    (hcv : r.cv = .slice (some ⟨b, 0, none⟩) r.cols.length cap) (x : Int) :
    RL (w.setCell ⟨b, c, none⟩ (.int .i64 x)) lv (C ++ r.set c x :: D) := by
  have hob : r.cv.ownBlock = some b := by rw [hcv]; rfl
  have hsplit : rlBlocks lv (C ++ r :: D) = (lv.ownBlock.toList ++ C.flatMap fun r => r.cv.ownBlock.toList) ++ [b] ++ D.flatMap fun r => r.cv.ownBlock.toList := by
    simp [rlBlocks, hob]
  rw [hsplit] at hn
  have hb := (nodup_mid hn).1 b (by simp)
  simp only [List.mem_append, Option.mem_toList, List.mem_flatMap, not_or, not_exists, not_and] at hb
  have hfr : Fr w (w.setCell ⟨b, c, none⟩ (.int .i64 x)) (fun k => k = b) := Fr.store _ _ _ _
  refine ⟨?_, ?_⟩
  · have e : flatR (C ++ r.set c x :: D) = flatR (C ++ r :: D) := by simp [flatR, GRow.set]
    have e2 : (C ++ r.set c x :: D).length = (C ++ r :: D).length := by simp
    rw [e, e2]
    exact hfr.own h.own fun k hk he => hb.1.1 (he ▸ hk)
  · intro r' hr'
    simp only [List.mem_append, List.mem_cons] at hr'
    rcases hr' with hr' | rfl | hr'
    · exact (h.cols r' (by simp [hr'])).fr hfr fun k hk he => hb.1.2 r' hr' (he ▸ hk)
    · have h0 := h.cols r (by simp)
      unfold OwnInts at h0 ⊢
      rw [hcv] at h0
      have := (h0.stored c (.int .i64 x)).1
      simp only [GRow.set, List.length_set, hcv]
      rw [List.map_set]
      exact this
    · exact (h.cols r' (by simp [hr'])).fr hfr fun k hk he => hb.2 r' hr' (he ▸ hk)

/-- Table i is another one. -/
def GRows.upd (R : GRows) (i : Nat) (t : GTab) : GRows := { R with tabs := R.tabs.set i t }
theorem gBlocks_split (R : GRows) {i : Nat} {t : GTab} (ht : R.tabs[i]? = some t) (t' : GTab) :
    gBlocks (R.upd i t') = (R.rb :: (R.tv.ownBlock.toList ++ (R.tabs.take i).flatMap tBlocks)) ++ tBlocks t' ++ (R.tabs.drop (i + 1)).flatMap tBlocks := by
  obtain ⟨h1, h2⟩ := split_at ht
  have : R.tabs.set i t' = R.tabs.take i ++ t' :: R.tabs.drop (i + 1) := by
    conv => lhs; rw [h1]
    conv => lhs; arg 2; rw [← h2]
    exact set_at _ _ _ _
  simp only [gBlocks, GRows.upd, this]
  simp
theorem upd_self (R : GRows) {i : Nat} {t : GTab} (ht : R.tabs[i]? = some t) : R.upd i t = R := by
  obtain ⟨hi, rfl⟩ := List.getElem?_eq_some_iff.1 ht
  simp [GRows.upd]
theorem GRows.upd_mod (R : GRows) (i : Nat) (t : GTab) : (R.upd i t).mod = R.mod.set i t.mod := by simp [GRows.upd, GRows.mod, List.map_set]
/-- A table has turned, by itself. -/
theorem RowsAt.upd {w w' : World} {R : GRows} {S : Nat → Prop} {i : Nat} {t t' : GTab} (h : RowsAt w R) (hn : (gBlocks R).Nodup) (ht : R.tabs[i]? = some t) (htb : t'.tb = t.tb)
    (hf : Fr w w' S) (hS : ∀ k, S k → k ∈ tBlocks t) (h' : TabAt w' t') (hn' : (tBlocks t').Nodup) (hb : ∀ k ∈ tBlocks t', k ∈ tBlocks t ∨ w.heap.size ≤ k) :
    RowsAt w' (R.upd i t') ∧ (gBlocks (R.upd i t')).Nodup ∧ (∀ k ∈ gBlocks (R.upd i t'), k ∈ gBlocks R ∨ w.heap.size ≤ k) ∧ (∀ k, S k → k ∈ gBlocks R) := by
  have e0 := gBlocks_split R ht t
  rw [upd_self R ht] at e0
  have hlt := h.lt
  rw [e0] at hn
  have hm := (nodup_mid hn).1
  have hSg : ∀ k, S k → k ∈ gBlocks R := fun k hk => by rw [e0]; simp [hS k hk]
  refine ⟨?_, ?_, ?_, hSg⟩
  · refine ⟨h.root.fr hf fun hs => (hm _ (hS _ hs)).1 (by simp), ?_, ?_⟩
    · have e : ptrs (R.tabs.set i t') = ptrs R.tabs := by
        simp only [ptrs, List.map_set]
        rw [htb]
        obtain ⟨hi, rfl⟩ := List.getElem?_eq_some_iff.1 ht
        apply List.ext_getElem?
        intro j
        by_cases hj : j = i
        · subst hj; simp [hi]
        · rw [List.getElem?_set_ne (Ne.symm hj)]
      show w'.ownsRow 0 _ 1 R.tv (R.tabs.set i t').length (ptrs (R.tabs.set i t'))
      rw [e, List.length_set]
      exact hf.own h.own fun k hk hs => (hm _ (hS _ hs)).1 (by simp [hk])
    · intro t2 ht2
      obtain ⟨j, hj⟩ := List.getElem?_of_mem ht2
      simp only [GRows.upd, List.getElem?_set] at hj
      split at hj
      · split at hj
        · cases hj; exact h'
        · cases hj
      · rename_i hne
        refine (h.tabs t2 (List.mem_of_getElem? hj)).fr hf fun k hk hs => ?_
        have := hm _ (hS _ hs)
        have hlt2 := (List.getElem?_eq_some_iff.1 hj).1
        rcases Nat.lt_or_ge j i with h3 | h3
        · refine this.1 ?_
          simp only [List.mem_cons, List.mem_append, List.mem_flatMap]
          exact .inr (.inr ⟨t2, List.mem_of_getElem? (show (R.tabs.take i)[j]? = some t2 by rw [List.getElem?_take, if_pos h3]; exact hj), hk⟩)
        · refine this.2 ?_
          simp only [List.mem_flatMap]
          exact ⟨t2, List.mem_of_getElem? (show (R.tabs.drop (i + 1))[j - (i + 1)]? = some t2 by rw [List.getElem?_drop, show i + 1 + (j - (i + 1)) = j by omega]; exact hj), hk⟩
  · rw [gBlocks_split R ht t']
    exact nodup_replace hn hn' hb (fun k hk => hlt k (by rw [e0]; simp only [List.mem_append]; exact .inl (.inl hk))) (fun k hk => hlt k (by rw [e0]; simp only [List.mem_append]; exact .inr hk))
  · intro k hk
    rw [gBlocks_split R ht t'] at hk
    rw [e0]
    simp only [List.mem_append] at hk ⊢
    rcases hk with (hk | hk) | hk
    · exact .inl (.inl (.inl hk))
    · rcases hb k hk with h1 | h1
      · exact .inl (.inl (.inr h1))
      · exact .inr h1
    · exact .inl (.inr hk)
end Go.Proofs.Ytjpenaodkfljhaa
