/-
  Walks of slices.Equal, and of what says that two rows, two tables are the same.
  Walks of what says that two tables are the same; of rows.Same.
  Walk of rows.Same: are rows the same?
-/
import Derived.Test.YtgpekgnhbccnoaaGreatPkZb31
import Derived.Test.YtgpekgnhbccnoaaGreatPkZb10
import Derived.Deep.QuietTactic
import Derived.BigQuiet
import Derived.Deep.RegionHeld3
import Derived.Laws.EntriesVeiled
namespace Go.Proofs.YtgpekgnhbccnoaaGreat
open Go Go.RowKit
attribute [local go_sem ↓] Go.wp_at_zero Go.wp_at_succ

set_option maxRecDepth 100000 in
set_option maxHeartbeats 400000 in
theorem equal_any (u v : Value) (xs ys : List Int) (w : World) (hu : IntsAt w u xs) (hv : IntsAt w v ys) (hx : xs.length ≤ 1000000) (hy : ys.length ≤ 1000000) :
    Calls Tryz.prog 67 #[u, v] w fun e w' => e = .returned (.bool (decide (xs = ys))) ∧ Fr w w' Nil := by
  obtain ⟨a, ca, rfl⟩ := hu.shape
  obtain ⟨b, cb, rfl⟩ := hv.shape
  have Hu := Lib.hid hu
  have Hv := Lib.hid hv
  clear hu hv
  by_cases hl : xs.length = ys.length
  · have hl2 : ((xs.length : Int) != (ys.length : Int)) = false := by rw [bne_eq_false_iff_eq]; omega
    have Hl := Lib.hid hl
    clear hl
    go_enter Tryz.func67, Tryz.ntmps67
    go_wp2_with fail
    go_loopw [5, 13] (fun _ vi wr => ∃ k : Nat, k ≤ xs.length ∧ vi = .int .i64 k ∧ xs.take k = ys.take k ∧ Fr w wr Nil) (fun _ vi _ => xs.length - (intOf vi).toNat)
    case atStart => exact ⟨0, by omega, rfl, by simp, Fr.refl _ _⟩
    case round =>
      obtain ⟨k, hk, rfl, htk, hf⟩ := hrel
      have Htk := Lib.hid htk
      have Hf := Lib.hid hf
      clear htk hf
      by_cases hlt : k < xs.length
      · have hlt' : k < ys.length := by have := Hl.out; omega
        obtain ⟨b1, o1, c1, hv1, hc1⟩ := Hu.out.form (by omega)
        obtain ⟨b2, o2, c2, hv2, hc2⟩ := Hv.out.form (by omega)
        simp only [Value.slice.injEq, true_and] at hv1 hv2
        obtain ⟨rfl, rfl⟩ := hv1
        obtain ⟨rfl, rfl⟩ := hv2
        have hg1 := List.getElem?_eq_getElem hlt
        have hg2 := List.getElem?_eq_getElem hlt'
        generalize xs[k] = x at hg1
        generalize ys[k] = y at hg2
        have p1 := Hf.out.cell (hc1 k x hg1) fun h => h
        have p2 := Hf.out.cell (hc2 k y hg2) fun h => h
        have i1 : (k : Int) < (xs.length : Int) := by omega
        have i2 : (k : Int) < (ys.length : Int) := by omega
        have Hg1 := Lib.hid hg1
        have Hg2 := Lib.hid hg2
        clear hc1 hc2 hg1 hg2
        by_cases hxy : x = y
        · have h1 : (x != y) = false := by rw [bne_eq_false_iff_eq]; exact hxy
          have HT := Lib.hid (take_succ_eq Hg1.out Hg2.out Htk.out hxy)
          clear hxy
          go_wp2_with fail
          go_quiet (fail)
          go_wp2_with fail
          go_roundw
          case rel => exact ⟨k + 1, by omega, by go_num, HT.out, Hf.out.drewN _⟩
          case measure => simp [intOf]; omega
        · have h1 : (x != y) = true := by rw [bne_iff_ne]; exact hxy
          have HN : Hid (xs ≠ ys) := by
            intro e
            have h2 := Hg1.out
            rw [e, Hg2.out] at h2
            exact hxy (by simpa using h2.symm)
          clear hxy
          go_wp2_with fail
          go_quiet (fail)
          go_wp2_with fail
          go_ret
          exact ⟨by rw [decide_eq_false HN.out]; rfl, Hf.out.drewN _⟩
      · have HE : Hid (xs = ys) := by
          have h1 := Htk.out
          have h2 := Hl.out
          rw [List.take_of_length_le (by omega), List.take_of_length_le (by omega)] at h1
          exact h1
        go_wp2_with fail
        go_ret
        exact ⟨by rw [decide_eq_true HE.out]; rfl, Hf.out⟩
  · have hl2 : ((xs.length : Int) != (ys.length : Int)) = true := by rw [bne_iff_ne]; omega
    have HN : Hid (xs ≠ ys) := fun e => hl (by rw [e])
    clear hl
    go_enter Tryz.func67, Tryz.ntmps67
    go_wp2_with fail
    go_ret
    exact ⟨by rw [decide_eq_false HN.out]; rfl, Fr.refl _ _⟩

set_option maxRecDepth 100000 in
set_option maxHeartbeats 400000 in
theorem same1_any (k1 k2 : Int) (u v : Value) (xs ys : List Int) (w : World) (hu : IntsAt w u xs) (hv : IntsAt w v ys) (hx : xs.length ≤ 1000000) (hy : ys.length ≤ 1000000) :
    Calls Tryz.prog 66 #[.agg #[.int .i64 k1, u], .agg #[.int .i64 k2, v]] w fun e w' => e = .returned (.bool (decide (k1 = k2 ∧ xs = ys))) ∧ Fr w w' Nil := by
  obtain ⟨a, ca, rfl⟩ := hu.shape
  obtain ⟨b, cb, rfl⟩ := hv.shape
  have Hu := Lib.hid hu
  have Hv := Lib.hid hv
  clear hu hv
  have HF : Hid (∀ o o', Fr w ((w.alloc o).alloc o') Nil) := fun o o' => ((Fr.refl w Nil).alloc o).alloc o'
  by_cases hk : k1 = k2
  · have f1 : (k1 == k2) = true := by rw [beq_iff_eq]; exact hk
    have HE : Hid (decide (k1 = k2 ∧ xs = ys) = decide (xs = ys)) := by
      have : decide (k1 = k2 ∧ xs = ys) = decide (xs = ys) := by simp [hk]
      exact this
    clear hk
    go_enter Tryz.func66, Tryz.ntmps66
    go_wp2_with fail
    refine (equal_any _ _ xs ys _ (Hu.out.fr (HF.out _ _) fun _ _ h => h) (Hv.out.fr (HF.out _ _) fun _ _ h => h) hx hy).mono ?_
    rintro e w' ⟨rfl, hf⟩
    have Hf := Lib.hid ((HF.out _ _).trans0 hf)
    clear hf
    go_wp2_with fail
    go_ret
    exact ⟨by rw [HE.out]; rfl, Hf.out⟩
  · have f1 : (k1 == k2) = false := by rw [beq_eq_false_iff_ne]; exact hk
    have HE : Hid (decide (k1 = k2 ∧ xs = ys) = false) := by
      have : decide (k1 = k2 ∧ xs = ys) = false := decide_eq_false fun h => hk h.1
      exact this
    clear hk
    go_enter Tryz.func66, Tryz.ntmps66
    go_wp2_with fail
    go_ret
    exact ⟨by rw [HE.out]; rfl, HF.out _ _⟩

theorem rowsOf_take_eq {g h : List GRow} {k : Nat} {r s : GRow} (hr : g[k]? = some r) (hs : h[k]? = some s) (hp : rowsOf (g.take k) = rowsOf (h.take k)) (e : r.key = s.key ∧ r.cols = s.cols) : rowsOf (g.take (k + 1)) = rowsOf (h.take (k + 1)) := by
  rw [List.take_add_one, List.take_add_one, hr, hs]
  unfold rowsOf at *
  rw [List.map_append, List.map_append, hp]
  simp [e.1, e.2]

set_option maxRecDepth 100000 in
set_option maxHeartbeats 1000000 in
theorem eqrows_any (u v : Value) (g h : List GRow) (w : World) (hu : RL w u g) (hv : RL w v h) (hg : g.length ≤ 1000000) (hgc : ∀ r ∈ g, r.cols.length ≤ 1000000) (hhc : ∀ r ∈ h, r.cols.length ≤ 1000000) :
    Calls Tryz.prog 70 #[u, v, .func (.func 66) #[] #[]] w fun e w' => e = .returned (.bool (decide (rowsOf g = rowsOf h))) ∧ Fr w w' Nil := by
  obtain ⟨a, ca, rfl⟩ := hu.shape2
  obtain ⟨b, cb, rfl⟩ := hv.shape2
  have Hu := Lib.hid hu
  have Hv := Lib.hid hv
  have Hgc := Lib.hid hgc
  have Hhc := Lib.hid hhc
  clear hu hv hgc hhc
  by_cases hl : g.length = h.length
  · have hl2 : ((g.length : Int) != (h.length : Int)) = false := by rw [bne_eq_false_iff_eq]; omega
    have Hl := Lib.hid hl
    clear hl
    go_enter Tryz.func70, Tryz.ntmps70
    go_wp2_with fail
    go_loopw [7, 8, 9, 17] (fun _ _ _ vi wr => ∃ k : Nat, k ≤ g.length ∧ vi = .int .i64 k ∧ rowsOf (g.take k) = rowsOf (h.take k) ∧ Fr w wr Nil) (fun _ _ _ vi _ => g.length - (intOf vi).toNat)
    case atStart => exact ⟨0, by omega, rfl, by simp, Fr.refl _ _⟩
    case round =>
      obtain ⟨k, hk, rfl, htk, hf⟩ := hrel
      have Htk := Lib.hid htk
      have Hf := Lib.hid hf
      clear htk hf
      by_cases hlt : k < g.length
      · have hlt' : k < h.length := by have := Hl.out; omega
        have hg1 := List.getElem?_eq_getElem hlt
        have hg2 := List.getElem?_eq_getElem hlt'
        generalize g[k] = r at hg1
        generalize h[k] = s at hg2
        have HU := Hu.out.fr Hf.out fun _ _ h => h
        have HV := Hv.out.fr Hf.out fun _ _ h => h
        obtain ⟨b1, c1, hv1, _⟩ : ∃ b cap, Value.slice a g.length ca = .slice (some ⟨b, 0, none⟩) g.length cap ∧ True := by
          rcases HU.shape with ⟨_, h2⟩ | ⟨b, cap, h1, _⟩
          · rw [h2] at hlt; simp at hlt
          · exact ⟨b, cap, h1, trivial⟩
        obtain ⟨b2, c2, hv2, _⟩ : ∃ b' cap, Value.slice b h.length cb = .slice (some ⟨b', 0, none⟩) h.length cap ∧ True := by
          rcases HV.shape with ⟨_, h2⟩ | ⟨b, cap, h1, _⟩
          · rw [h2] at hlt'; simp at hlt'
          · exact ⟨b, cap, h1, trivial⟩
        simp only [Value.slice.injEq, true_and] at hv1 hv2
        obtain ⟨rfl, rfl⟩ := hv1
        obtain ⟨rfl, rfl⟩ := hv2
        have p0 := HU.key _ r hg1
        have p1 := HU.cv _ r hg1
        have s0 := HV.key _ s hg2
        have s1 := HV.cv _ s hg2
        have hc1 := HU.cols r (List.mem_of_getElem? hg1)
        have hc2 := HV.cols s (List.mem_of_getElem? hg2)
        have hx1 := Hgc.out r (List.mem_of_getElem? hg1)
        have hx2 := Hhc.out s (List.mem_of_getElem? hg2)
        obtain ⟨a5, c5, hcv1⟩ := hc1.shape
        obtain ⟨a6, c6, hcv2⟩ := hc2.shape
        rw [hcv1] at hc1 p1
        rw [hcv2] at hc2 s1
        have z0 := fun o => ((Fr.refl wr Nil).alloc o).cell s0 (fun h => h)
        have z1 := fun o => ((Fr.refl wr Nil).alloc o).cell s1 (fun h => h)
        have HF2 : Hid (∀ o o', Fr wr ((wr.alloc o).alloc o') Nil) := fun o o' => ((Fr.refl wr Nil).alloc o).alloc o'
        have Hc1 := Lib.hid hc1
        have Hc2 := Lib.hid hc2
        have Hg1 := Lib.hid hg1
        have Hg2 := Lib.hid hg2
        have i1 : (k : Int) < (g.length : Int) := by omega
        have i2 : (k : Int) < (h.length : Int) := by omega
        clear HU HV hc1 hc2 hg1 hg2 hcv1 hcv2
        by_cases he : r.key = s.key ∧ r.cols = s.cols
        · have HE := Lib.hid (decide_eq_true he)
          have HT := Lib.hid (rowsOf_take_eq Hg1.out Hg2.out Htk.out he)
          clear he
          go_wp2_with fail
          refine (same1_any _ _ _ _ r.cols s.cols _ (Hc1.out.at.fr (HF2.out _ _) fun _ _ h => h) (Hc2.out.at.fr (HF2.out _ _) fun _ _ h => h) hx1 hx2).mono ?_
          rintro e w' ⟨he, hf⟩
          rw [HE.out] at he
          subst he
          have Hf' := Lib.hid ((Hf.out.trans0 (HF2.out _ _)).trans0 hf)
          clear hf z0 z1
          go_wp2_with fail
          go_roundw
          case rel => exact ⟨k + 1, by omega, by go_num, HT.out, Hf'.out⟩
          case measure => simp [intOf]; omega
        · have HE := Lib.hid (decide_eq_false he)
          have HN : Hid (rowsOf g ≠ rowsOf h) := by
            intro e
            have h1 : (rowsOf g)[k]? = (rowsOf h)[k]? := by rw [e]
            simp only [rowsOf, List.getElem?_map, Hg1.out, Hg2.out, Option.map_some, Option.some.injEq, Prod.mk.injEq] at h1
            exact he h1
          clear he
          go_wp2_with fail
          refine (same1_any _ _ _ _ r.cols s.cols _ (Hc1.out.at.fr (HF2.out _ _) fun _ _ h => h) (Hc2.out.at.fr (HF2.out _ _) fun _ _ h => h) hx1 hx2).mono ?_
          rintro e w' ⟨he, hf⟩
          rw [HE.out] at he
          subst he
          have Hf' := Lib.hid ((Hf.out.trans0 (HF2.out _ _)).trans0 hf)
          clear hf z0 z1
          go_wp2_with fail
          go_ret
          exact ⟨by rw [decide_eq_false HN.out]; rfl, Hf'.out⟩
      · have HE : Hid (rowsOf g = rowsOf h) := by
          have h1 := Htk.out
          have h2 := Hl.out
          rw [List.take_of_length_le (by omega), List.take_of_length_le (by omega)] at h1
          exact h1
        go_wp2_with fail
        go_ret
        exact ⟨by rw [decide_eq_true HE.out]; rfl, Hf.out⟩
  · have hl2 : ((g.length : Int) != (h.length : Int)) = true := by rw [bne_iff_ne]; omega
    have HN : Hid (rowsOf g ≠ rowsOf h) := fun e => hl (by have := congrArg List.length e; simpa [rowsOf] using this)
    clear hl
    go_enter Tryz.func70, Tryz.ntmps70
    go_wp2_with fail
    go_ret
    exact ⟨by rw [decide_eq_false HN.out]; rfl, Fr.refl _ _⟩
end Go.Proofs.YtgpekgnhbccnoaaGreat
namespace Go.Proofs.YtgpekgnhbccnoaaGreat
open Go Go.RowKit
attribute [local go_sem ↓] Go.wp_at_zero Go.wp_at_succ

set_option maxRecDepth 100000 in
set_option maxHeartbeats 1000000 in
theorem same2_any (t s : GTab) (fb : Nat) (w : World) (ht : TabAt w t) (hs : TabAt w s) (hgt : GoodT t.mod) (hgs : GoodT s.mod) (hf : w.cell? ⟨fb, 0, none⟩ = some (.func (.func 66) #[] #[])) :
    Calls Tryz.prog 69 #[.pointer (some ⟨t.tb, 0, none⟩), .pointer (some ⟨s.tb, 0, none⟩), .pointer (some ⟨fb, 0, none⟩)] w fun e w' => e = .returned (.bool (decide (t.mod = s.mod))) ∧ Fr w w' Nil := by
  have p0 := ht.blk.cell 0
  have p1 := ht.blk.cell 1
  have s0 := hs.blk.cell 0
  have s1 := hs.blk.cell 1
  obtain ⟨a, ca, hlv⟩ := ht.rl.shape2
  obtain ⟨b, cb, hlv2⟩ := hs.rl.shape2
  rw [hlv] at p1
  rw [hlv2] at s1
  have Ht := Lib.hid ht
  have Hs := Lib.hid hs
  have hgl := hgt.few
  have hgw : ∀ r ∈ t.rows, r.cols.length ≤ 1000000 := fun r hr => by
    have h1 := hgt.width (r.key, r.cols) (by simp only [GTab.mod, List.mem_map]; exact ⟨r, hr, rfl⟩)
    have h2 := hgt.le
    simp only at h1
    omega
  have hsw : ∀ r ∈ s.rows, r.cols.length ≤ 1000000 := fun r hr => by
    have h1 := hgs.width (r.key, r.cols) (by simp only [GTab.mod, List.mem_map]; exact ⟨r, hr, rfl⟩)
    have h2 := hgs.le
    simp only at h1
    omega
  have Hgw := Lib.hid hgw
  have Hsw := Lib.hid hsw
  have HL : Hid (t.rows.length ≤ 1000000) := by
    have : t.rows.length ≤ 1000000 := by simpa [GTab.mod] using hgl
    exact this
  have HE : Hid (RL w.drew (.slice a t.rows.length ca) t.rows ∧ RL w.drew (.slice b s.rows.length cb) s.rows) := by
    rw [← hlv, ← hlv2]
    exact ⟨Ht.out.rl.fr ((Fr.refl w Nil).drew) fun _ _ h => h, Hs.out.rl.fr ((Fr.refl w Nil).drew) fun _ _ h => h⟩
  clear ht hs hgt hgs hgl hgw hsw hlv hlv2
  by_cases hn : t.n = s.n
  · have f1 : ((t.n : Int) == (s.n : Int)) = true := by rw [beq_iff_eq]; omega
    have HD : Hid (decide (t.mod = s.mod) = decide (rowsOf t.rows = rowsOf s.rows)) := by
      have : decide (t.mod = s.mod) = decide (rowsOf t.rows = rowsOf s.rows) := by
        congr 1
        simp only [GTab.mod, Prod.mk.injEq, hn, true_and]
        rfl
      exact this
    clear hn
    go_enter Tryz.func69, Tryz.ntmps69
    go_wp2_with fail
    go_region_held3 (fun w' => w'.cell? ⟨t.tb, 0, none⟩ = some (.int .i64 t.n) ∧ w'.cell? ⟨t.tb, 1, none⟩ = some (.slice a t.rows.length ca) ∧ w'.cell? ⟨s.tb, 0, none⟩ = some (.int .i64 s.n) ∧ w'.cell? ⟨s.tb, 1, none⟩ = some (.slice b s.rows.length cb) ∧ w'.cell? ⟨fb, 0, none⟩ = some (.func (.func 66) #[] #[]))
      (first | go_keep | exact hS5)
      (first | (go_at_call 70; refine (eqrows_any _ _ t.rows s.rows _ HE.out.1 HE.out.2 HL.out Hgw.out Hsw.out).mono ?_; rintro e w5 ⟨rfl, hf5⟩; have hS5 := And.intro (hf5.cell p0 (fun h => h)) (And.intro (hf5.cell p1 (fun h => h)) (And.intro (hf5.cell s0 (fun h => h)) (And.intro (hf5.cell s1 (fun h => h)) (hf5.cell hf (fun h => h)))))))
    have Hf5 := Lib.hid ((Fr.refl w Nil).drew.trans0 hf5)
    clear hf5
    go_wp2_with fail
    go_ret
    exact ⟨by rw [HD.out]; rfl, Hf5.out⟩
  · have f1 : ((t.n : Int) == (s.n : Int)) = false := by rw [beq_eq_false_iff_ne]; omega
    have HD : Hid (decide (t.mod = s.mod) = false) := by
      have : decide (t.mod = s.mod) = false := decide_eq_false fun h => hn (congrArg Prod.fst h)
      exact this
    clear hn
    go_enter Tryz.func69, Tryz.ntmps69
    go_wp2_with fail
    go_quiet (fail)
    go_wp2_with fail
    go_ret
    exact ⟨by rw [HD.out]; rfl, (Fr.refl w Nil).drewN _⟩

theorem tabs_take_eq {g h : List GTab} {k : Nat} {r s : GTab} (hr : g[k]? = some r) (hs : h[k]? = some s) (hp : (g.take k).map GTab.mod = (h.take k).map GTab.mod) (e : r.mod = s.mod) : (g.take (k + 1)).map GTab.mod = (h.take (k + 1)).map GTab.mod := by
  rw [List.take_add_one, List.take_add_one, hr, hs, List.map_append, List.map_append, hp]
  simp [e]

set_option maxRecDepth 100000 in
set_option maxHeartbeats 1000000 in
theorem eqtabs_any (R Q : GRows) (fb : Nat) (w : World) (hR : RowsAt w R) (hQ : RowsAt w Q) (hg : Good R.mod) (hq : Good Q.mod) (hf : w.cell? ⟨fb, 0, none⟩ = some (.func (.func 66) #[] #[])) :
    Calls Tryz.prog 68 #[R.tv, Q.tv, .func (.func 69) #[] #[.pointer (some ⟨fb, 0, none⟩)]] w fun e w' => e = .returned (.bool (decide (R.mod = Q.mod))) ∧ Fr w w' Nil := by
  obtain ⟨a, ca, htv⟩ := hR.shape2
  obtain ⟨b, cb, htq⟩ := hQ.shape2
  have hl1 : R.tabs.length ≤ 1000000 := hg.lenR
  rw [htv, htq]
  have HTV := Lib.hid htv
  have HTQ := Lib.hid htq
  have HR := Lib.hid hR
  have HQ := Lib.hid hQ
  have HG1 : Hid (∀ t ∈ R.tabs, GoodT t.mod) := fun t ht => (hg.tabs t.mod (List.mem_map.2 ⟨t, ht, rfl⟩)).1
  have HG2 : Hid (∀ t ∈ Q.tabs, GoodT t.mod) := fun t ht => (hq.tabs t.mod (List.mem_map.2 ⟨t, ht, rfl⟩)).1
  clear hR hQ hg hq htv htq
  by_cases hl : R.tabs.length = Q.tabs.length
  · have hl2 : ((R.tabs.length : Int) != (Q.tabs.length : Int)) = false := by rw [bne_eq_false_iff_eq]; omega
    have Hl := Lib.hid hl
    clear hl
    go_enter Tryz.func68, Tryz.ntmps68
    go_wp2_with fail
    go_loopw [7, 8, 9, 17] (fun _ _ _ vi wr => ∃ k : Nat, k ≤ R.tabs.length ∧ vi = .int .i64 k ∧ (R.tabs.take k).map GTab.mod = (Q.tabs.take k).map GTab.mod ∧ Fr w wr Nil) (fun _ _ _ vi _ => R.tabs.length - (intOf vi).toNat)
    case atStart => exact ⟨0, by omega, rfl, by simp, Fr.refl _ _⟩
    case round =>
      obtain ⟨k, hk, rfl, htk, hfr⟩ := hrel
      have Htk := Lib.hid htk
      have Hf := Lib.hid hfr
      clear htk hfr
      by_cases hlt : k < R.tabs.length
      · have hlt' : k < Q.tabs.length := by have := Hl.out; omega
        have hg1 := List.getElem?_eq_getElem hlt
        have hg2 := List.getElem?_eq_getElem hlt'
        generalize R.tabs[k] = r at hg1
        generalize Q.tabs[k] = s at hg2
        have HU : RowsAt wr R := HR.out.fr Hf.out fun _ _ h => h
        have HV : RowsAt wr Q := HQ.out.fr Hf.out fun _ _ h => h
        obtain ⟨b1, c1, hv1, _⟩ : ∃ b cap, R.tv = .slice (some ⟨b, 0, none⟩) R.tabs.length cap ∧ True := by
          rcases HU.shape with ⟨_, h2⟩ | ⟨b, cap, h1, _⟩
          · rw [h2] at hlt; simp at hlt
          · exact ⟨b, cap, h1, trivial⟩
        obtain ⟨b2, c2, hv2, _⟩ : ∃ b' cap, Q.tv = .slice (some ⟨b', 0, none⟩) Q.tabs.length cap ∧ True := by
          rcases HV.shape with ⟨_, h2⟩ | ⟨b, cap, h1, _⟩
          · rw [h2] at hlt'; simp at hlt'
          · exact ⟨b, cap, h1, trivial⟩
        have p0 := HU.ptr hv1 k r hg1
        have s0 := HV.ptr hv2 k s hg2
        rw [HTV.out] at hv1
        rw [HTQ.out] at hv2
        simp only [Value.slice.injEq, true_and] at hv1 hv2
        obtain ⟨rfl, rfl⟩ := hv1
        obtain ⟨rfl, rfl⟩ := hv2
        have Hg1 := Lib.hid hg1
        have Hg2 := Lib.hid hg2
        have HT1 := Lib.hid (HU.tabs r (List.mem_of_getElem? hg1))
        have HT2 := Lib.hid (HV.tabs s (List.mem_of_getElem? hg2))
        have i1 : (k : Int) < (R.tabs.length : Int) := by omega
        have i2 : (k : Int) < (Q.tabs.length : Int) := by omega
        clear HU HV hg1 hg2
        go_wp2_with fail
        refine (same2_any r s fb _ HT1.out HT2.out (HG1.out r (List.mem_of_getElem? Hg1.out)) (HG2.out s (List.mem_of_getElem? Hg2.out)) (Hf.out.cell hf fun h => h)).mono ?_
        rintro e w' ⟨he, hf2⟩
        by_cases hms : r.mod = s.mod
        · rw [decide_eq_true hms] at he
          subst he
          have HT := Lib.hid (tabs_take_eq Hg1.out Hg2.out Htk.out hms)
          have Hf' := Lib.hid (Hf.out.trans0 hf2)
          clear hf2 hms
          go_wp2_with fail
          go_roundw
          case rel => exact ⟨k + 1, by omega, by go_num, HT.out, Hf'.out⟩
          case measure => simp [intOf]; omega
        · rw [decide_eq_false hms] at he
          subst he
          have HN : Hid (R.mod ≠ Q.mod) := by
            intro e
            have h1 : R.mod[k]? = Q.mod[k]? := by rw [e]
            simp only [GRows.mod, List.getElem?_map, Hg1.out, Hg2.out, Option.map_some, Option.some.injEq] at h1
            exact hms h1
          have Hf' := Lib.hid (Hf.out.trans0 hf2)
          clear hf2 hms
          go_wp2_with fail
          go_ret
          exact ⟨by rw [decide_eq_false HN.out]; rfl, Hf'.out⟩
      · have HE : Hid (R.mod = Q.mod) := by
          have h1 := Htk.out
          have h2 := Hl.out
          rw [List.take_of_length_le (by omega), List.take_of_length_le (by omega)] at h1
          exact h1
        go_wp2_with fail
        go_ret
        exact ⟨by rw [decide_eq_true HE.out]; rfl, Hf.out⟩
  · have hl2 : ((R.tabs.length : Int) != (Q.tabs.length : Int)) = true := by rw [bne_iff_ne]; omega
    have HN : Hid (R.mod ≠ Q.mod) := fun e => hl (by have := congrArg List.length e; simpa [GRows.mod] using this)
    clear hl
    go_enter Tryz.func68, Tryz.ntmps68
    go_wp2_with fail
    go_ret
    exact ⟨by rw [decide_eq_false HN.out]; rfl, Fr.refl _ _⟩
end Go.Proofs.YtgpekgnhbccnoaaGreat
namespace Go.Proofs.YtgpekgnhbccnoaaGreat
open Go Go.RowKit
attribute [local go_sem ↓] Go.wp_at_zero Go.wp_at_succ

set_option maxRecDepth 100000 in
set_option maxHeartbeats 1000000 in
theorem rsame_any (R Q : GRows) (w : World) (hR : RowsAt w R) (hQ : RowsAt w Q) (hg : Good R.mod) (hq : Good Q.mod) :
    Calls Tryz.prog 29 #[R.val, Q.val] w fun e w' => e = .returned (.bool (decide (R.mod = Q.mod))) ∧ Fr w w' Nil := by
  have hfa : Fr w (w.alloc (Obj.cells #[.func (.func 66) #[] #[]] 139)) Nil := (Fr.refl w Nil).alloc _
  have HR := Lib.hid ((hR.fr hfa fun _ _ h => h).fr ((Fr.refl _ Nil).drew) fun _ _ h => h)
  have HQ := Lib.hid ((hQ.fr hfa fun _ _ h => h).fr ((Fr.refl _ Nil).drew) fun _ _ h => h)
  have HG := Lib.hid hg
  have HG2 := Lib.hid hq
  have HF := Lib.hid hfa
  have p0 := hfa.cell (hR.root.cell 0) (fun h => h)
  have p1 := hfa.cell (hQ.root.cell 0) (fun h => h)
  have pf := (Bk.new w 139 #[.func (.func 66) #[] #[]]).cell 0
  obtain ⟨a, ca, htv⟩ := hR.shape2
  obtain ⟨b, cb, htq⟩ := hQ.shape2
  have HE := Lib.hid (eqtabs_any R Q w.heap.size _ HR.out HQ.out hg hq pf)
  rw [htv] at p0 HE
  rw [htq] at p1 HE
  clear hR hQ hg hq hfa htv htq
  go_enter Tryz.func29, Tryz.ntmps29
  go_wp2_with fail
  go_region_held3 (fun w' => w'.cell? ⟨R.rb, 0, none⟩ = some (.slice a R.tabs.length ca) ∧ w'.cell? ⟨Q.rb, 0, none⟩ = some (.slice b Q.tabs.length cb))
    (first | go_keep | exact hS5)
    (first | (go_at_call 68; refine HE.out.mono ?_; rintro e w5 ⟨rfl, hf5⟩; have hS5 := And.intro (hf5.cell p0 (fun h => h)) (hf5.cell p1 (fun h => h))))
  have Hf5 := Lib.hid (HF.out.drew.trans0 hf5)
  clear hf5
  go_wp2_with fail
  go_ret
  exact ⟨rfl, Hf5.out⟩
end Go.Proofs.YtgpekgnhbccnoaaGreat
