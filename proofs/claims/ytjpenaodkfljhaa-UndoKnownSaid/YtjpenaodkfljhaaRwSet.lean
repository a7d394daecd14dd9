/-
  Walks of Set, Sum.
  No condition but sizes.
-/
import Derived.Test.YtjpenaodkfljhaaRwRead
namespace Go.Proofs.Ytjpenaodkfljhaa
open Go Go.RowKit

def MTab.set (T : MTab) (k : Int) (c : Nat) (x : Int) : MTab := (T.1, T.2.map fun r => if r.1 = k then (r.1, r.2.set c x) else r)
def mset (M : List MTab) (i k c x : Int) : List MTab × Bool × Int :=
  if 0 ≤ c ∧ c < (mtab M i).1 then (if (mget (mtab M i) k).isSome then (M.set i.toNat ((mtab M i).set k c.toNat x), true, 0) else (M, false, 0)) else (M, false, 2)

/-- The tables are others, as M' says, in the same place and in new memory. -/
def Upd (R : GRows) (w : World) (M' : List MTab) (w' : World) : Prop :=
  ∃ R' : GRows, R'.rb = R.rb ∧ RowsAt w' R' ∧ (gBlocks R').Nodup ∧ (∀ k ∈ gBlocks R', k ∈ gBlocks R ∨ w.heap.size ≤ k) ∧ Fr w w' (fun k => k ∈ gBlocks R) ∧ R'.mod = M'
theorem Upd.same {R : GRows} {w w' : World} (h : RowsAt w R) (hn : (gBlocks R).Nodup) (hf : Fr w w' Nil) : Upd R w R.mod w' :=
  ⟨R, rfl, h.fr hf fun _ _ h => h, hn, fun _ hk => .inl hk, hf.of_nil, rfl⟩
theorem Upd.after {R : GRows} {w w1 w' : World} {M : List MTab} (hf : Fr w w1 Nil) (h : Upd R w1 M w') : Upd R w M w' := by
  obtain ⟨R', h1, h2, h3, h4, h5, h6⟩ := h
  exact ⟨R', h1, h2, h3, fun k hk => (h4 k hk).imp id fun h => Nat.le_trans hf.size h, hf.of_nil.transS h5, h6⟩
theorem Upd.drew {R : GRows} {w w' : World} {M : List MTab} (h : Upd R w M w') : Upd R w M w'.drew := by
  obtain ⟨R', h1, h2, h3, h4, h5, h6⟩ := h
  exact ⟨R', h1, h2.fr ((Fr.refl w' Nil).drew) (fun _ _ h => h), h3, h4, h5.drew, h6⟩
def RetUpd (R : GRows) (w : World) (x : List MTab × Bool × Int) (e : Ending) (w' : World) : Prop :=
  e = .returned (.tuple #[.bool x.2.1, .int .i64 x.2.2]) ∧ Upd R w x.1 w'

theorem set_mod {t : GTab} (hs : Sorted t.rows) {n : Nat} {r : GRow} (hr : t.rows[n]? = some r) (c : Nat) (x : Int) :
    GTab.mod { t with rows := t.rows.take n ++ r.set c x :: t.rows.drop (n + 1) } = t.mod.set r.key c x := by
  obtain ⟨h1, h2⟩ := split_at hr
  have hl : ∀ r' ∈ t.rows.take n, r'.key ≠ r.key := by
    intro r' h' e
    obtain ⟨j, hj⟩ := List.getElem?_of_mem h'
    rw [List.getElem?_take] at hj
    split at hj
    · have := hs.lt hj hr (by assumption); omega
    · cases hj
  have hd : ∀ r' ∈ t.rows.drop (n + 1), r'.key ≠ r.key := by
    intro r' h' e
    obtain ⟨j, hj⟩ := List.getElem?_of_mem h'
    rw [List.getElem?_drop] at hj
    have := hs.lt hr hj (by omega); omega
  have e : t.mod.set r.key c x = GTab.mod { t with rows := t.rows.take n ++ r.set c x :: t.rows.drop (n + 1) } := by
    unfold MTab.set GTab.mod
    simp only
    congr 1
    conv => lhs; rw [h1]
    simp only [List.map_append, List.map_cons, List.map_map, GRow.set, if_true]
    congr 1
    · apply List.map_congr_left
      intro r' h'
      simp [hl r' h']
    · congr 1
      apply List.map_congr_left
      intro r' h'
      simp [hd r' h']
  exact e.symm
theorem mem_split {R : GRows} {i : Nat} {t : GTab} (ht : R.tabs[i]? = some t) : gBlocks R = (R.rb :: (R.tv.ownBlock.toList ++ (R.tabs.take i).flatMap tBlocks)) ++ tBlocks t ++ (R.tabs.drop (i + 1)).flatMap tBlocks := by
  have e0 := gBlocks_split R ht t
  rwa [upd_self R ht] at e0
theorem tBlocks_nodup {R : GRows} {i : Nat} {t : GTab} (hn : (gBlocks R).Nodup) (ht : R.tabs[i]? = some t) : (tBlocks t).Nodup := by
  rw [mem_split ht] at hn
  exact (nodup_mid hn).2

/-- A value of a row of a table is set in place. -/
theorem set_upd {R : GRows} {w : World} (h : RowsAt w R) (hn : (gBlocks R).Nodup) {i n : Nat} {t : GTab} {r : GRow} (ht : R.tabs[i]? = some t) (hs : Sorted t.rows) (hr : t.rows[n]? = some r)
    {b cap : Nat} (hcv : r.cv = .slice (some ⟨b, 0, none⟩) r.cols.length cap) (c : Nat) (x : Int) :
    Upd R w (R.mod.set i (t.mod.set r.key c x)) (w.setCell ⟨b, c, none⟩ (.int .i64 x)) := by
  have htn := tBlocks_nodup hn ht
  have hta := h.tabs t (List.mem_of_getElem? ht)
  obtain ⟨h1, h2⟩ := split_at hr
  let t' : GTab := { t with rows := t.rows.take n ++ r.set c x :: t.rows.drop (n + 1) }
  have eb : tBlocks t' = tBlocks t := by
    simp only [tBlocks, rlBlocks, t', List.flatMap_append, List.flatMap_cons, GRow.set]
    conv => rhs; rw [h1]
    simp only [List.flatMap_append, List.flatMap_cons]
  have hb2 : b ∈ rlBlocks t.lv t.rows := by
    simp only [rlBlocks, List.mem_append, List.mem_flatMap]
    exact .inr ⟨r, List.mem_of_getElem? hr, by simp [hcv, Value.ownBlock]⟩
  have hbm : b ∈ tBlocks t := List.mem_cons_of_mem _ hb2
  have hne : t.tb ≠ b := fun e => (List.nodup_cons.1 htn).1 (e ▸ hb2)
  have hrl : RL (w.setCell ⟨b, c, none⟩ (.int .i64 x)) t.lv t'.rows := by
    have hrl0 := hta.rl
    rw [h1] at hrl0
    refine hrl0.set ?_ hcv x
    rw [← h1]
    exact (List.nodup_cons.1 htn).2
  have key := h.upd hn ht (t' := t') rfl (Fr.store w b c (.int .i64 x)) (fun k hk => by rw [hk]; exact hbm)
    ⟨hta.blk.fr (Fr.store w b c _) (fun e => hne e), hrl⟩ (by rw [eb]; exact htn) (fun k hk => .inl (by rw [← eb]; exact hk))
  refine ⟨R.upd i t', rfl, key.1, key.2.1, key.2.2.1, (Fr.store w b c _).mono fun k _ hk => key.2.2.2 k hk, ?_⟩
  rw [GRows.upd_mod, ← set_mod hs hr]

set_option maxRecDepth 100000 in
set_option maxHeartbeats 400000 in
theorem set_any (R : GRows) (i k c x : Int) (w : World) (h : RowsAt w R) (hn : (gBlocks R).Nodup) (hg : Good R.mod) :
    Calls Try.prog 98 #[R.val, .int .i64 i, .int .i64 k, .int .i64 c, .int .i64 x] w (RetUpd R w (mset R.mod i k c x)) := by
  have H := Lib.hid h
  have Hn := Lib.hid hn
  have hl : R.tabs.length ≤ 1000000 := by have := hg.few; simp [GRows.mod] at this; omega
  have Hg := Lib.hid (hg.at i)
  have HS : Hid (mset R.mod i k c x = mset R.mod i k c x) := rfl
  conv at HS => arg 1; rhs; unfold mset
  clear h hg hn
  go_enter Try.func98, Try.ntmps98
  go_wp2_with fail
  refine (table_any R i _ H.out hl).mono ?_
  rintro e w1 ⟨t, rfl, ht, hf, hm, hin⟩
  rw [← hm] at Hg HS
  have Hin := Lib.hid hin
  clear hm hin
  have Ht := Lib.hid ht
  have Hf := Lib.hid hf
  have q0 := ht.blk.cell 0
  clear ht hf
  go_wp2_with fail
  refine (has_any _ _ _).mono ?_
  rintro e w' ⟨rfl, rfl⟩
  clear q0
  by_cases hc : 0 ≤ c ∧ c < (t.mod.1 : Int)
  · have hc2 : c < (t.n : Int) := hc.2
    obtain ⟨hi0, hti⟩ : 0 ≤ i ∧ R.tabs[i.toNat]? = some t := by
      rcases Hin.out with h | ⟨_, h⟩
      · exact h
      · rw [h] at hc2; simp [noTab] at hc2; omega
    have Hti := Lib.hid hti
    rw [decide_eq_true hc.1, decide_eq_true hc2]
    have HS1 : Hid (mset R.mod i k c x = if (mget t.mod k).isSome then (R.mod.set i.toNat (t.mod.set k c.toNat x), true, 0) else (R.mod, false, 0)) := by
      have := HS.out
      rw [if_pos hc] at this
      exact this
    obtain ⟨c, rfl⟩ := Int.eq_ofNat_of_zero_le hc.1
    clear HS hc hti Hin hi0
    go_wp2_with fail
    refine (find_any t k _ Ht.out Hg.out.sorted' Hg.out.few').mono ?_
    rintro e w2 ⟨rfl, hf2⟩
    have Hf2 := Lib.hid (Hf.out.trans0 hf2)
    have Ht2 : Hid (TabAt w2 t) := Ht.out.fr hf2 fun _ _ h => h
    clear hf2
    by_cases hx : ∃ r ∈ t.rows, r.key = k
    · obtain ⟨r, hr, hk⟩ := row_found Hg.out.sorted' hx
      have hlt := (List.getElem?_eq_some_iff.1 hr).1
      rcases Ht2.out.rl.shape with ⟨_, h2⟩ | ⟨b, cap, hlv, _⟩
      · rw [h2] at hlt; simp at hlt
      have hrl := Ht2.out.rl
      rw [hlv] at hrl
      have q0 := Ht2.out.blk.cell 1
      rw [hlv] at q0
      have q1 := hrl.cv _ r hr
      have hcl := hrl.cols r (List.mem_of_getElem? hr)
      have hw : c < r.cols.length := by rw [Hg.out.width' r (List.mem_of_getElem? hr)]; omega
      obtain ⟨bc, capc, hcv, _⟩ := hcl.form (by omega)
      rw [hcv] at hcl q1
      have q2 := hcl.cell rfl c hw
      have q3 := hcl.free rfl c
      have Hcv := Lib.hid hcv
      have Hr := Lib.hid hr
      have Hk := Lib.hid hk
      have HM := Lib.hid (mget_found Hg.out.sorted' hr hk)
      have HR2 : Hid (RowsAt w2 R) := H.out.fr Hf2.out fun _ _ h => h
      rw [decide_eq_true hx]
      generalize lbK t.rows k = n at *
      generalize r.cols.getD c 0 = old at q2
      have hw2 : (c : Int) < (r.cols.length : Int) := by omega
      have hlt2 : (n : Int) < (t.rows.length : Int) := by omega
      clear hrl hcl hcv hr hlv hk hx
      go_wp2_with fail
      go_ret2
      have hu := set_upd HR2.out Hn.out Hti.out Hg.out.sorted' Hr.out Hcv.out c x
      rw [HS1.out, HM.out, ← Hk.out]
      exact ⟨rfl, Upd.after Hf2.out hu⟩
    · have HM : Hid (mget t.mod k = none) := mget_none (by
        simp only [GTab.mod, List.mem_map]
        rintro ⟨_, ⟨r, hr, rfl⟩, hk⟩
        exact hx ⟨r, hr, hk⟩)
      rw [decide_eq_false hx]
      clear hx
      go_wp2_with fail
      go_ret2
      rw [HS1.out, HM.out]
      exact ⟨rfl, Upd.same H.out Hn.out Hf2.out⟩
  · have hb : (decide (0 ≤ c) && decide (c < (t.n : Int))) = false := by
      rw [Bool.and_eq_false_iff]
      by_cases h0 : 0 ≤ c
      · right; rw [decide_eq_false_iff_not]; exact fun h => hc ⟨h0, h⟩
      · left; rw [decide_eq_false_iff_not]; exact h0
    rw [hb]
    have HS2 : Hid (mset R.mod i k c x = (R.mod, false, 2)) := by
      have := HS.out
      rw [if_neg hc] at this
      exact this
    clear HS hb hc
    go_wp2_with fail
    go_ret2
    rw [HS2.out]
    exact ⟨rfl, Upd.same H.out Hn.out Hf.out⟩

def sumTo (T : MTab) (c k : Nat) : Int := (T.2.take k).foldl (fun n r => IntKind.i64.wrap (n + r.2.getD c 0)) 0
def msum (T : MTab) (c : Int) : Int := if 0 ≤ c ∧ c < T.1 then sumTo T c.toNat T.2.length else 0
theorem sumTo_succ {t : GTab} {k : Nat} {r : GRow} (hr : t.rows[k]? = some r) (c : Nat) : sumTo t.mod c (k + 1) = wrap64 (sumTo t.mod c k + r.cols.getD c 0) := by
  unfold sumTo GTab.mod
  simp only
  rw [List.take_succ_eq_append_getElem (by simpa using (List.getElem?_eq_some_iff.1 hr).1), List.foldl_append]
  have : (t.rows.map fun r => (r.key, r.cols))[k]'(by simpa using (List.getElem?_eq_some_iff.1 hr).1) = (r.key, r.cols) := by
    simp [(List.getElem?_eq_some_iff.1 hr).2]
  rw [this]
  simp [IntKind.wrap_i64, wrap64]

set_option maxRecDepth 100000 in
set_option maxHeartbeats 400000 in
theorem sum_any (R : GRows) (i c : Int) (w : World) (h : RowsAt w R) (hg : Good R.mod) :
    Calls Try.prog 41 #[R.val, .int .i64 i, .int .i64 c] w (RetInt (msum (mtab R.mod i) c) w) := by
  have H := Lib.hid h
  have hl : R.tabs.length ≤ 1000000 := by have := hg.few; simp [GRows.mod] at this; omega
  have Hg := Lib.hid (hg.at i)
  clear h hg
  go_enter Try.func41, Try.ntmps41
  go_wp2_with fail
  refine (table_any R i _ H.out hl).mono ?_
  rintro e w1 ⟨t, rfl, ht, hf, hm, hin⟩
  rw [← hm] at Hg
  have Hm := Lib.hid hm
  clear hm hin
  have Ht := Lib.hid ht
  have Hf := Lib.hid hf
  have q0 := ht.blk.cell 0
  have q1 := ht.blk.cell 1
  clear ht hf
  go_wp2_with fail
  refine (has_any _ _ _).mono ?_
  rintro e w' ⟨rfl, rfl⟩
  clear q0
  by_cases hc : 0 ≤ c ∧ c < (t.mod.1 : Int)
  · have hc2 : c < (t.n : Int) := hc.2
    have HS : Hid (msum t.mod c = sumTo t.mod c.toNat t.rows.length) := by
      have : msum t.mod c = sumTo t.mod c.toNat t.rows.length := by
        unfold msum
        rw [if_pos hc]
        simp [GTab.mod]
      exact this
    rw [decide_eq_true hc.1, decide_eq_true hc2]
    obtain ⟨c, rfl⟩ := Int.eq_ofNat_of_zero_le hc.1
    simp only [Int.toNat_natCast] at HS
    have hlen := Hg.out.few'
    obtain ⟨a0, cap, hlv⟩ := Ht.out.rl.shape2
    rw [hlv] at q1
    have Hlv := Lib.hid hlv
    clear hc hlv
    go_wp2_with fail
    go_loopw [8, 26] (fun vn vi wr => ∃ k : Nat, k ≤ t.rows.length ∧ vi = .int .i64 k ∧ vn = .int .i64 (sumTo t.mod c k) ∧ Fr w1 wr Nil)
      (fun _ vi _ => t.rows.length - (intOf vi).toNat)
    case atStart => exact ⟨0, by omega, rfl, rfl, Fr.refl _ _⟩
    case round =>
      obtain ⟨k, hk, rfl, rfl, hfr⟩ := hrel
      have Hfr := Lib.hid hfr
      clear hfr
      by_cases hlt : k < t.rows.length
      · have hr := List.getElem?_eq_getElem hlt
        generalize t.rows[k] = r at hr
        have HT : TabAt wr t := Ht.out.fr Hfr.out fun _ _ h => h
        obtain ⟨b, capb, hlv, _⟩ : ∃ b cap, t.lv = .slice (some ⟨b, 0, none⟩) t.rows.length cap ∧ True := by
          rcases HT.rl.shape with ⟨_, h2⟩ | ⟨b, cap, h1, _⟩
          · rw [h2] at hlt; simp at hlt
          · exact ⟨b, cap, h1, trivial⟩
        rw [Hlv.out] at hlv
        simp only [Value.slice.injEq, true_and] at hlv
        obtain ⟨rfl, rfl⟩ := hlv
        have hrl := HT.rl
        rw [Hlv.out] at hrl
        have p0 := hrl.key _ r hr
        have p1 := hrl.cv _ r hr
        have hcl := hrl.cols r (List.mem_of_getElem? hr)
        have hw : c < r.cols.length := by rw [Hg.out.width' r (List.mem_of_getElem? hr)]; omega
        obtain ⟨bc, capc, hcv, _⟩ := hcl.form (by omega)
        rw [hcv] at hcl p1
        have p2 := fun o => ((Fr.refl wr Nil).alloc o).cell (hcl.cell rfl c hw) (fun h => h)
        have hw2 : (c : Int) < (r.cols.length : Int) := by omega
        have hlt2 : (k : Int) < (t.rows.length : Int) := by omega
        have HS2 := Lib.hid (sumTo_succ hr c)
        generalize r.cols.getD c 0 = old at *
        generalize sumTo t.mod c k = acc at *
        clear hrl hcl hcv hr HT
        go_wp2_with fail
        go_roundw
        case rel => exact ⟨k + 1, by omega, by go_num, by rw [HS2.out], Hfr.out.alloc _⟩
        case measure => simp [intOf]; omega
      · go_wp2_with fail
        go_ret
        obtain rfl : k = t.rows.length := by omega
        exact ⟨by rw [← Hm.out, HS.out]; rfl, Hf.out.trans0 Hfr.out⟩
  · have hb : (decide (0 ≤ c) && decide (c < (t.n : Int))) = false := by
      rw [Bool.and_eq_false_iff]
      by_cases h0 : 0 ≤ c
      · right; rw [decide_eq_false_iff_not]; exact fun h => hc ⟨h0, h⟩
      · left; rw [decide_eq_false_iff_not]; exact h0
    have HS : Hid (msum t.mod c = 0) := by
      unfold msum; exact if_neg hc
    rw [hb]
    clear hb hc
    go_wp2_with fail
    go_ret
    exact ⟨by rw [← Hm.out, HS.out]; rfl, Hf.out⟩
end Go.Proofs.Ytjpenaodkfljhaa
