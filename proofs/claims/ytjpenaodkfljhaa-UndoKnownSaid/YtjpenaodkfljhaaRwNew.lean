/-
  Walks of Delete, New.
  No condition but sizes.
-/
import Derived.Test.YtjpenaodkfljhaaRwPut
namespace Go.Proofs.Ytjpenaodkfljhaa
open Go Go.RowKit

def MTab.del (T : MTab) (k : Int) : MTab := (T.1, T.2.filter (fun r => r.1 ≠ k))
def mdel (M : List MTab) (i k : Int) : List MTab × Bool × Int :=
  if (mtab M i).1 = 0 then (M, false, 2) else if (mget (mtab M i) k).isSome then (M.set i.toNat ((mtab M i).del k), true, 0) else (M, false, 0)

theorem del_mod {t : GTab} (hs : Sorted t.rows) {k : Int} {n : Nat} {r : GRow} (hr : t.rows[n]? = some r) (hk : r.key = k) : (t.n, rowsOf (t.rows.eraseIdx n)) = t.mod.del k := by
  obtain ⟨hsp, _⟩ := split_at hr
  have hl : ∀ x ∈ t.rows.take n, x.key ≠ k := by
    intro x hx e
    obtain ⟨j, hj⟩ := List.getElem?_of_mem hx
    rw [List.getElem?_take] at hj
    split at hj
    · have := hs.lt hj hr (by assumption); omega
    · cases hj
  have hd : ∀ x ∈ t.rows.drop (n + 1), x.key ≠ k := by
    intro x hx e
    obtain ⟨j, hj⟩ := List.getElem?_of_mem hx
    rw [List.getElem?_drop] at hj
    have := hs.lt hr hj (by omega); omega
  have hne : ∀ g : List GRow, (∀ x ∈ g, x.key ≠ k) → (rowsOf g).filter (fun r => r.1 ≠ k) = rowsOf g := by
    intro g hg
    rw [List.filter_eq_self]
    intro x hx
    simp only [rowsOf, List.mem_map] at hx
    obtain ⟨y, hy, rfl⟩ := hx
    simpa using hg y hy
  have e : (GTab.mod t).2 = rowsOf (t.rows.take n) ++ ((k, r.cols) :: rowsOf (t.rows.drop (n + 1))) := by
    show rowsOf t.rows = _
    conv => lhs; rw [hsp]
    simp [rowsOf, hk]
  unfold MTab.del
  rw [e, List.filter_append, hne _ hl, List.filter_cons_of_neg (by simp), hne _ hd, List.eraseIdx_eq_take_drop_succ]
  simp [rowsOf, GTab.mod]

theorem sub_flatMap {α β : Type} {l l' : List α} (h : l.Sublist l') (f : α → List β) : (l.flatMap f).Sublist (l'.flatMap f) := by
  induction h with
  | slnil => exact List.Sublist.refl _
  | cons a _ ih => rw [List.flatMap_cons]; exact ih.trans (List.sublist_append_right _ _)
  | cons_cons a _ ih => rw [List.flatMap_cons, List.flatMap_cons]; exact List.Sublist.append (List.Sublist.refl _) ih
/-- A row is taken away: w2: the slice is shorter; w': it is in the table. -/
theorem del_here {R : GRows} {w w1 w2 : World} (h : RowsAt w R) (hn : (gBlocks R).Nodup) {i : Nat} {t : GTab} (ht : R.tabs[i]? = some t) (hs : Sorted t.rows) {k : Int} {n : Nat} {r : GRow} (hr : t.rows[n]? = some r) (hk : r.key = k)
    {b cap : Nat} (hlv : t.lv = .slice (some ⟨b, 0, none⟩) t.rows.length cap) (hf1 : Fr w w1 Nil) (ho : w2.ownsRow 0 102 2 (.slice (some ⟨b, 0, none⟩) (t.rows.length - 1) cap) (t.rows.length - 1) (flatR (t.rows.eraseIdx n)))
    (hf2 : Fr w1 w2 (fun j => j = b)) :
    Upd R w (R.mod.set i (t.mod.del k)) (w2.setCell ⟨t.tb, 1, none⟩ (.slice (some ⟨b, 0, none⟩) (t.rows.length - 1) cap)) := by
  have htn := tBlocks_nodup hn ht
  have hrn := (List.nodup_cons.1 htn).2
  have htbn := (List.nodup_cons.1 htn).1
  have hta := h.tabs t (List.mem_of_getElem? ht)
  have hi := (List.getElem?_eq_some_iff.1 hr).1
  have hob : t.lv.ownBlock = some b := by rw [hlv]; rfl
  have hbt : b ∈ rlBlocks t.lv t.rows := by simp [rlBlocks, hob]
  have hne : t.tb ≠ b := fun e => htbn (e ▸ hbt)
  have hf02 : Fr w w2 (fun j => j = b) := hf1.of_nil.transS hf2
  have hf3 := Fr.store w2 t.tb 1 (.slice (some ⟨b, 0, none⟩) (t.rows.length - 1) cap)
  have hrl' : rlBlocks t.lv t.rows = [b] ++ t.rows.flatMap fun r => r.cv.ownBlock.toList := by simp [rlBlocks, hob]
  have hbr : b ∉ t.rows.flatMap (fun r => r.cv.ownBlock.toList) := by
    rw [hrl', List.nodup_append] at hrn
    intro hm
    exact hrn.2.2 b (by simp) b hm rfl
  have hsub : (t.rows.eraseIdx n).Sublist t.rows := List.eraseIdx_sublist _ _
  rw [← del_mod hs hr hk]
  have hS : ∀ j, (j = b ∨ j = t.tb) → j ∈ tBlocks t := by
    rintro j (rfl | rfl)
    · exact List.mem_cons_of_mem _ hbt
    · exact List.mem_cons_self
  refine upd_rows (S := fun j => j = b ∨ j = t.tb) (lv := .slice (some ⟨b, 0, none⟩) (t.rows.length - 1) cap) (g := t.rows.eraseIdx n) h hn ht ((hf02.mono fun _ _ h => .inl h).transS (hf3.mono fun _ _ h => .inr h)) hS ?_ ?_ ?_ ?_
  · exact (hta.blk.fr hf02 fun e => hne e).set 1 _
  · refine ⟨?_, fun x hx => ?_⟩
    · rw [List.length_eraseIdx_of_lt hi]
      exact hf3.own ho fun j hj e => hne (by cases hj; exact e.symm)
    · have hx' := hsub.subset hx
      refine ((hta.rl.cols x hx').fr hf02 fun j hj e => ?_).fr hf3 fun j hj e => ?_
      · have e' : j = b := e
        exact hbr (by simp only [List.mem_flatMap]; exact ⟨x, hx', by simp [hj, e']⟩)
      · have e' : j = t.tb := e
        refine htbn ?_
        rw [← e', hrl']
        simp only [List.mem_append, List.mem_flatMap]
        exact .inr ⟨x, hx', by simp [hj]⟩
  · rw [hrl'] at hrn
    show ([b] ++ _).Nodup
    exact hrn.sublist (List.Sublist.append (List.Sublist.refl _) (sub_flatMap hsub _))
  · intro j hj
    left
    rw [hrl']
    have : rlBlocks (.slice (some ⟨b, 0, none⟩) (t.rows.length - 1) cap) (t.rows.eraseIdx n) = [b] ++ (t.rows.eraseIdx n).flatMap fun r => r.cv.ownBlock.toList := rfl
    rw [this] at hj
    exact (List.Sublist.append (List.Sublist.refl _) (sub_flatMap hsub _)).subset hj

set_option maxRecDepth 100000 in
set_option maxHeartbeats 400000 in
theorem del_any (R : GRows) (i k : Int) (w : World) (h : RowsAt w R) (hn : (gBlocks R).Nodup) (hg : Good R.mod) :
    Calls Try.prog 33 #[R.val, .int .i64 i, .int .i64 k] w (RetUpd R w (mdel R.mod i k)) := by
  have H := Lib.hid h
  have Hn := Lib.hid hn
  have hl : R.tabs.length ≤ 1000000 := by have := hg.few; simp [GRows.mod] at this; omega
  have Hg := Lib.hid (hg.at i)
  have HS : Hid (mdel R.mod i k = mdel R.mod i k) := rfl
  conv at HS => arg 1; rhs; unfold mdel
  clear h hg hn
  go_enter Try.func33, Try.ntmps33
  go_wp2_with fail
  refine (table_any R i _ H.out hl).mono ?_
  rintro e w1 ⟨t, rfl, ht, hf, hm, hin⟩
  rw [← hm] at Hg HS
  have Hin := Lib.hid hin
  clear hm hin
  have Ht := Lib.hid ht
  have Hf := Lib.hid hf
  have q0 := ht.blk.cell 0
  clear ht hf
  by_cases h0 : t.mod.1 = 0
  · have h0' : ((t.n : Int) == 0) = true := by rw [beq_iff_eq]; show ((t.mod.1 : Nat) : Int) = 0; omega
    have HS2 : Hid (mdel R.mod i k = (R.mod, false, 2)) := by
      have := HS.out
      rw [if_pos h0] at this
      exact this
    clear HS h0
    go_wp2_with fail
    go_ret2
    rw [HS2.out]
    exact ⟨rfl, Upd.same H.out Hn.out Hf.out⟩
  · have h0' : ((t.n : Int) == 0) = false := by rw [beq_eq_false_iff_ne]; intro e; apply h0; show t.n = 0; omega
    have HS1 : Hid (mdel R.mod i k = if (mget t.mod k).isSome then (R.mod.set i.toNat (t.mod.del k), true, 0) else (R.mod, false, 0)) := by
      have := HS.out
      rw [if_neg h0] at this
      exact this
    obtain ⟨hi0, hti⟩ : 0 ≤ i ∧ R.tabs[i.toNat]? = some t := by
      rcases Hin.out with h | ⟨_, h⟩
      · exact h
      · rw [h] at h0; exact absurd rfl h0
    have Hti := Lib.hid hti
    clear HS h0 Hin hti hi0
    go_wp2_with fail
    refine (find_any t k _ Ht.out Hg.out.sorted' Hg.out.few').mono ?_
    rintro e w2 ⟨rfl, hf2⟩
    have Hf2 := Lib.hid (Hf.out.trans0 hf2)
    have Ht2 : Hid (TabAt w2 t) := Ht.out.fr hf2 fun _ _ h => h
    clear hf2 q0
    by_cases hx : ∃ r ∈ t.rows, r.key = k
    · obtain ⟨r, hr, hk⟩ := row_found Hg.out.sorted' hx
      have hlt := (List.getElem?_eq_some_iff.1 hr).1
      rcases Ht2.out.rl.shape with ⟨_, h2⟩ | ⟨b, cap, hlv, hcap⟩
      · rw [h2] at hlt; simp at hlt
      have hrl := Ht2.out.rl
      rw [hlv] at hrl
      have q1 := Ht2.out.blk.cell 1
      rw [hlv] at q1
      have hlen := Hg.out.few'
      have HM := Lib.hid (mget_found Hg.out.sorted' hr hk)
      have HD : Hid (Calls Try.prog 78 #[.slice (some ⟨b, 0, none⟩) t.rows.length cap, .int .i64 (lbK t.rows k), .int .i64 ((lbK t.rows k : Nat) + 1)] w2 _) := delete_any b cap t.rows (lbK t.rows k) w2 hrl hlt hcap hlen
      have HR2 : Hid (RowsAt w2 R) := H.out.fr Hf2.out fun _ _ h => h
      have Hr := Lib.hid hr
      have Hk := Lib.hid hk
      have Hlv := Lib.hid hlv
      have HB := Lib.hid Ht2.out.blk
      have hne : b ≠ t.tb := by
        intro e
        have := (List.nodup_cons.1 (tBlocks_nodup Hn.out Hti.out)).1
        exact this (by simp [rlBlocks, hlv, Value.ownBlock, e])
      rw [decide_eq_true hx]
      generalize lbK t.rows k = n at *
      clear hrl hlv hr hk hx hcap
      go_wp2_with fail
      refine HD.out.mono ?_
      rintro e w3 ⟨rfl, ho, hf3⟩
      have y0 := HB.out.fr hf3 (fun e => hne e.symm)
      have y1 := y0.cell 1
      have y2 := y0.free 1
      have HP := Lib.hid (del_here H.out Hn.out Hti.out Hg.out.sorted' Hr.out Hk.out Hlv.out Hf2.out ho hf3)
      clear ho hf3 y0
      go_wp2_with fail
      go_ret2
      rw [HS1.out, HM.out]
      exact ⟨rfl, HP.out⟩
    · have HM : Hid (mget t.mod k = none) := mget_none (by
        simp only [GTab.mod, List.mem_map]
        rintro ⟨_, ⟨r, hr, rfl⟩, hk⟩
        exact hx ⟨r, hr, hk⟩)
      rw [decide_eq_false hx]
      clear hx
      go_wp2_with fail
      go_ret2
      rw [HS1.out, HM.out]
      exact ⟨rfl, Upd.same H.out Hn.out Hf2.out⟩

def colsOk (cols : List Int) : Prop := cols.length ≤ 64 ∧ ∀ n ∈ cols, 1 ≤ n ∧ n ≤ 16
instance (cols : List Int) : Decidable (colsOk cols) := by unfold colsOk; infer_instance
def newMod (cols : List Int) : List MTab := cols.map fun n => (n.toNat, [])
/-- Tables of the call's own. -/
structure Fresh (B : Nat) (w : World) (R : GRows) : Prop where
  rows : RowsAt w R
  nodup : (gBlocks R).Nodup
  new : ∀ k ∈ gBlocks R, B ≤ k
/-- A table is appended: w: before; w2: the table is there; w3: appended to the slice; then the slice is stored. -/
theorem Fresh.add {B : Nat} {w w2 w3 : World} {R : GRows} {t : GTab} {b cap : Nat} (h : Fresh B w R) (hB : B ≤ w.heap.size) (hf : Fr w w2 Nil) (ht : TabAt w2 t) (htn : (tBlocks t).Nodup) (htb : ∀ k ∈ tBlocks t, w.heap.size ≤ k)
    (ho : w3.ownsRow 0 95 1 (.slice (some ⟨b, 0, none⟩) (R.tabs.length + 1) cap) (R.tabs.length + 1) (ptrs R.tabs ++ [.pointer (some ⟨t.tb, 0, none⟩)]))
    (hg : w2.grownBy w3 R.tv.ownBlock) (hb : R.tv.ownBlock = some b ∨ w2.heap.size ≤ b) :
    Fresh B (w3.setCell ⟨R.rb, 0, none⟩ (.slice (some ⟨b, 0, none⟩) (R.tabs.length + 1) cap)) ⟨R.rb, .slice (some ⟨b, 0, none⟩) (R.tabs.length + 1) cap, R.tabs ++ [t]⟩ := by
  have hs := hf.size
  have hf3 : Fr w2 w3 (fun j => R.tv.ownBlock = some j) := (Fr.refl w2 _).grown hg fun j hj _ => hj
  have hlt := h.rows.lt
  have hn := h.nodup
  have hrbn := (List.nodup_cons.1 hn).1
  have hn2 := (List.nodup_cons.1 hn).2
  have hn3 := List.nodup_append.1 hn2
  have htl := ht.lt
  have hrb : R.rb < w.heap.size := hlt _ (by simp [gBlocks])
  have hvm : ∀ j, R.tv.ownBlock = some j → j ∈ gBlocks R := fun j hj => by simp [gBlocks, hj]
  have hbn : b ≠ R.rb := by
    intro e
    rcases hb with h1 | h1
    · exact hrbn (by simp [← e, h1])
    · omega
  have hbt : b ∉ R.tabs.flatMap tBlocks := by
    intro hm
    rcases hb with h1 | h1
    · exact hn3.2.2 b (by simp [h1]) b hm rfl
    · have := hlt b (by simp only [gBlocks, List.mem_cons, List.mem_append]; exact .inr (.inr hm)); omega
  have hbtn : b ∉ tBlocks t := by
    intro hm
    have h1 := htb b hm
    have h2 := htl b hm
    rcases hb with h3 | h3
    · have := hlt b (hvm b h3); omega
    · omega
  have hst := Fr.store w3 R.rb 0 (.slice (some ⟨b, 0, none⟩) (R.tabs.length + 1) cap)
  refine ⟨⟨?_, ?_, ?_⟩, ?_, ?_⟩
  · have h1 : Bk w3 R.rb 94 [R.tv] := (h.rows.root.fr hf fun h => h).fr hf3 fun e => hrbn (by simp [e])
    exact h1.set 0 _
  · have h1 : ptrs (R.tabs ++ [t]) = ptrs R.tabs ++ [.pointer (some ⟨t.tb, 0, none⟩)] := by simp [ptrs]
    show World.ownsRow _ 0 _ 1 _ (R.tabs ++ [t]).length (ptrs (R.tabs ++ [t]))
    rw [h1]
    simp only [List.length_append, List.length_cons, List.length_nil, Nat.zero_add]
    exact hst.own ho fun j hj e => hbn (by cases hj; exact e)
  · intro t2 ht2
    rw [List.mem_append] at ht2
    rcases ht2 with ht2 | ht2
    · refine (((h.rows.tabs t2 ht2).fr hf fun _ _ h => h).fr hf3 fun j hj e => ?_).fr hst fun j hj e => ?_
      · exact hn3.2.2 j (by simp [e]) j (by simp only [List.mem_flatMap]; exact ⟨t2, ht2, hj⟩) rfl
      · have e' : j = R.rb := e
        exact hrbn (by rw [← e']; simp only [List.mem_append, List.mem_flatMap]; exact .inr ⟨t2, ht2, hj⟩)
    · simp only [List.mem_singleton] at ht2
      subst ht2
      refine (ht.fr hf3 fun j hj e => ?_).fr hst fun j hj e => ?_
      · have h1 := htb j hj
        have := hlt j (hvm j e); omega
      · have e' : j = R.rb := e
        have h1 := htb j hj
        omega
  · have e : gBlocks ⟨R.rb, .slice (some ⟨b, 0, none⟩) (R.tabs.length + 1) cap, R.tabs ++ [t]⟩ = R.rb :: b :: (R.tabs.flatMap tBlocks ++ tBlocks t) := by simp [gBlocks, Value.ownBlock]
    rw [e]
    refine List.nodup_cons.2 ⟨?_, List.nodup_cons.2 ⟨?_, List.nodup_append.2 ⟨hn3.2.1, htn, ?_⟩⟩⟩
    · simp only [List.mem_cons, List.mem_append, not_or]
      refine ⟨fun e => hbn e.symm, fun hm => hrbn (by simp only [List.mem_append]; exact .inr hm), fun hm => ?_⟩
      have := htb _ hm; omega
    · simp only [List.mem_append, not_or]
      exact ⟨hbt, hbtn⟩
    · intro x hx y hy e
      subst e
      have h1 := htb x hy
      have := hlt x (by simp only [gBlocks, List.mem_cons, List.mem_append]; exact .inr (.inr hx)); omega
  · intro j hj
    have e : gBlocks ⟨R.rb, .slice (some ⟨b, 0, none⟩) (R.tabs.length + 1) cap, R.tabs ++ [t]⟩ = R.rb :: b :: (R.tabs.flatMap tBlocks ++ tBlocks t) := by simp [gBlocks, Value.ownBlock]
    rw [e] at hj
    simp only [List.mem_cons, List.mem_append] at hj
    rcases hj with rfl | rfl | hj | hj
    · exact h.new _ (by simp [gBlocks])
    · rcases hb with h1 | h1
      · exact h.new _ (hvm _ h1)
      · omega
    · exact h.new _ (by simp only [gBlocks, List.mem_cons, List.mem_append]; exact .inr (.inr hj))
    · have := htb j hj; omega
def NewRet (cols : List Int) (w : World) (e : Ending) (w' : World) : Prop :=
  (colsOk cols ∧ ∃ R, e = .returned (.tuple #[R.val, .int .i64 0]) ∧ Fresh w.heap.size w' R ∧ R.mod = newMod cols ∧ Fr w w' Nil) ∨
  (¬ colsOk cols ∧ e = .returned (.tuple #[.pointer none, .int .i64 2]) ∧ Fr w w' Nil)
theorem Try.infoP : (Try.prog.info? 95).map (fun i => (i.zero, i.size, i.bytes)) = some (some (.pointer none), 1, 8) := by kernel_rfl

set_option maxRecDepth 100000 in
set_option maxHeartbeats 400000 in
theorem new_any (v : Value) (cols : List Int) (w : World) (hv : IntsAt w v cols) (hl : cols.length ≤ 9223372036854775807) :
    Calls Try.prog 40 #[v] w (NewRet cols w) := by
  obtain ⟨i0, hinf, hz0, hz1, hz2⟩ := info_parts Try.infoP
  obtain ⟨av, capv, rfl⟩ := hv.shape
  have Hv := Lib.hid hv
  clear hv
  by_cases h64 : cols.length ≤ 64
  · have h9 : decide ((64 : Int) < (cols.length : Int)) = false := by rw [decide_eq_false_iff_not]; omega
    go_enter Try.func40, Try.ntmps40
    go_wp2_with fail
    go_loopw [6, 14] (fun _ vi wr => ∃ (k : Nat) (R : GRows), R.rb = w.heap.size ∧ k ≤ cols.length ∧ vi = .int .i64 k ∧ Fresh w.heap.size wr R ∧ R.mod = newMod (cols.take k) ∧ R.tabs.length = k ∧ Fr w wr Nil ∧ ∀ n ∈ cols.take k, 1 ≤ n ∧ n ≤ 16)
      (fun _ vi _ => cols.length - (intOf vi).toNat)
    case atStart =>
      refine ⟨0, ⟨w.heap.size, .slice none 0 0, []⟩, rfl, by omega, rfl, ⟨⟨Bk.new _ _ _, World.ownsRow_nil _ _ _ _, fun t ht => by cases ht⟩, by simp [gBlocks, Value.ownBlock], fun k hk => by simp [gBlocks, Value.ownBlock] at hk; omega⟩, rfl, rfl, (Fr.refl _ _).alloc _, by simp⟩
    case round =>
      obtain ⟨k, R, hrb, hk, rfl, hfr, hmod, hlen, hf, hall⟩ := hrel
      have Hrb := Lib.hid hrb
      have Hfr := Lib.hid hfr
      have Hmod := Lib.hid hmod
      have Hlen := Lib.hid hlen
      have Hf := Lib.hid hf
      have Hall := Lib.hid hall
      clear hrb hfr hmod hlen hf hall
      by_cases hlt : k < cols.length
      · obtain ⟨b, off, cap2, hvf, hc⟩ := Hv.out.form (by omega)
        simp only [Value.slice.injEq, true_and] at hvf
        obtain ⟨rfl, rfl⟩ := hvf
        have hn := List.getElem?_eq_getElem hlt
        generalize cols[k] = n at hn
        have p0 := Hf.out.cell (hc k n hn) fun h => h
        have Hn := Lib.hid hn
        have hlt2 : (k : Int) < (cols.length : Int) := by omega
        clear hc hn
        by_cases hr : 1 ≤ n ∧ n ≤ 16
        · obtain ⟨hr1, hr2⟩ := hr
          obtain ⟨at_, capt, htv⟩ := Hfr.out.rows.shape2
          have q0 := Hfr.out.rows.root.cell 0
          have q1 := Hfr.out.rows.root.free 0
          rw [htv] at q0
          rw [Hrb.out] at q0 q1
          have Htv := Lib.hid htv
          clear htv
          have y := (Bk.fr Hfr.out.rows.root (((Fr.refl wr Nil).alloc (Obj.cells #[Value.int .i64 n, .slice none 0 0] 98)).alloc (Obj.cells #[.pointer (some ⟨wr.heap.size, 0, none⟩)] 95)) fun h => h)
          rw [Hrb.out] at y
          have Hy := Lib.hid y
          have HO : Hid (World.ownsRow ((wr.alloc (Obj.cells #[Value.int .i64 n, .slice none 0 0] 98)).alloc (Obj.cells #[.pointer (some ⟨wr.heap.size, 0, none⟩)] 95)) 0 95 1 (.slice at_ R.tabs.length capt) R.tabs.length (ptrs R.tabs)) := by
            have := ((((Fr.refl wr Nil).alloc (Obj.cells #[Value.int .i64 n, .slice none 0 0] 98)).alloc (Obj.cells #[.pointer (some ⟨wr.heap.size, 0, none⟩)] 95))).own Hfr.out.rows.own fun _ _ h => h
            rw [Htv.out] at this
            exact this
          have HNE : Hid (∀ j, (Value.slice at_ R.tabs.length capt).ownBlock = some j → j ≠ w.heap.size) := by
            rw [← Htv.out, ← Hrb.out]
            intro j hj e
            exact (List.nodup_cons.1 Hfr.out.nodup).1 (by simp [← e, hj])
          clear y
          go_wp2_with (at_builtin; refine wpList_append_lies _ rfl _ _ _ rfl 0 95 i0 _ 1 8 Try.underlying92 hinf hz0 hz1 hz2 rfl (by omega) _ R.tabs.length (ptrs R.tabs) rfl HO.out ⟨wr.heap.size + 1, 0, none⟩ 1 1 [.pointer (some ⟨wr.heap.size, 0, none⟩)] rfl rfl ?c2 ?c3 (by omega) ?c4 ?c5 (Nat.zero_le _) (wr.heap.size + 2) (by simp) ?_)
          case c2 =>
            have := World.news_of_block (heap_alloc_new (wr.alloc (Obj.cells #[Value.int .i64 n, .slice none 0 0] 98)) (Obj.cells #[.pointer (some ⟨wr.heap.size, 0, none⟩)] 95))
            simpa using this
          case c3 => intro u hu; simp at hu; rcases hu with rfl; rfl
          case c4 => have := Hlen.out; unfold maxLen; omega
          case c5 => have := Hlen.out; omega
          intro b2 cap2 w3 ho hgr hat _
          have Ho := Lib.hid ho
          have Hgr := Lib.hid hgr
          have Hat := Lib.hid hat
          have y0 := Hy.out.fr ((Fr.refl _ (fun j => (Value.slice at_ R.tabs.length capt).ownBlock = some j)).grown hgr fun j hj _ => hj) (fun h => HNE.out _ h rfl)
          have y1 := y0.cell 0
          have y2 := y0.free 0
          clear ho hgr hat y0 q0 q1
          go_wp2_with fail
          have hfr2 := ((Fr.refl wr Nil).alloc (Obj.cells #[Value.int .i64 n, .slice none 0 0] 98)).alloc (Obj.cells #[.pointer (some ⟨wr.heap.size, 0, none⟩)] 95)
          have hnn : ((n.toNat : Nat) : Int) = n := by omega
          have hta : TabAt ((wr.alloc (Obj.cells #[Value.int .i64 n, .slice none 0 0] 98)).alloc (Obj.cells #[.pointer (some ⟨wr.heap.size, 0, none⟩)] 95)) ⟨wr.heap.size, n.toNat, .slice none 0 0, []⟩ := by
            refine TabAt.fr (w := wr.alloc (Obj.cells #[Value.int .i64 n, .slice none 0 0] 98)) ⟨?_, World.ownsRow_nil _ _ _ _, fun r hr => by cases hr⟩ ((Fr.refl _ Nil).alloc _) fun _ _ h => h
            show Bk _ _ _ [.int .i64 ((n.toNat : Nat) : Int), _]
            rw [hnn]
            exact Bk.new _ _ _
          refine ⟨⟨k + 1, ⟨R.rb, .slice (some ⟨b2, 0, none⟩) (R.tabs.length + 1) cap2, R.tabs ++ [⟨wr.heap.size, n.toNat, .slice none 0 0, []⟩]⟩, Hrb.out, by omega, by go_num, ?_, ?_, ?_, ?_, ?_⟩, by simp [intOf]; omega⟩
          · have := Fresh.add Hfr.out Hf.out.size hfr2 hta (by simp [tBlocks, rlBlocks, Value.ownBlock]) (fun j hj => by simp [tBlocks, rlBlocks, Value.ownBlock] at hj; omega) Ho.out (by rw [Htv.out]; exact Hgr.out)
              (by
                rw [Htv.out]
                refine Hat.out.imp id fun e => ?_
                simp; omega)
            rw [Hrb.out] at this ⊢
            exact this
          · show List.map GTab.mod (R.tabs ++ [_]) = _
            have hm : List.map GTab.mod R.tabs = newMod (cols.take k) := Hmod.out
            rw [List.map_append, hm, List.take_add_one, Hn.out]
            simp [newMod, GTab.mod]
          · simp [Hlen.out]
          · refine (((Hf.out.trans0 hfr2).grown Hgr.out fun j hj hlt => ?_)).setCell (fun hlt => ?_) _
            · have := Hfr.out.new j (by simp [gBlocks, Htv.out, hj])
              omega
            · have h2 : w.heap.size < w.heap.size := hlt
              omega
          · intro m hm
            rw [List.take_add_one, Hn.out] at hm
            simp only [Option.toList_some, List.mem_append, List.mem_singleton] at hm
            rcases hm with hm | rfl
            · exact Hall.out m hm
            · exact ⟨hr1, hr2⟩
        · have hbad : Hid (¬ colsOk cols) := fun h => hr (h.2 n (List.mem_of_getElem? Hn.out))
          by_cases hr1 : n < 1
          · clear hr
            go_wp2_with fail
            go_ret2
            exact .inr ⟨hbad.out, rfl, Hf.out⟩
          · have hr2 : 16 < n := by omega
            have hr3 : 1 ≤ n := by omega
            clear hr hr1
            go_wp2_with fail
            go_ret2
            exact .inr ⟨hbad.out, rfl, Hf.out⟩
      · go_wp2_with fail
        go_ret2
        obtain rfl : k = cols.length := by omega
        refine .inl ⟨⟨h64, fun n hn => Hall.out n (by rw [List.take_of_length_le (Nat.le_refl _)]; exact hn)⟩, R, by simp [GRows.val, Hrb.out], Hfr.out, ?_, Hf.out⟩
        rw [Hmod.out, List.take_of_length_le (Nat.le_refl _)]
  · go_enter Try.func40, Try.ntmps40
    go_wp2_with fail
    go_ret2
    exact .inr ⟨fun h => h64 h.1, rfl, Fr.refl _ _⟩
end Go.Proofs.Ytjpenaodkfljhaa
