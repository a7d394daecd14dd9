/-
  Walks of what says that two tables are the same; of rows.Same.
  No condition but sizes.
-/
import Derived.Test.YtljgifjokdppgaaRwSame
import Derived.Deep.QuietTactic
import Derived.BigQuiet
import Derived.Deep.RegionHeld3
namespace Go.Proofs.Ytljgifjokdppgaa
open Go Go.RowKit
attribute [local go_sem ↓] Go.wp_at_zero Go.wp_at_succ

set_option maxRecDepth 100000 in
set_option maxHeartbeats 1000000 in
theorem same2_any (t s : GTab) (fb : Nat) (w : World) (ht : TabAt w t) (hs : TabAt w s) (hgt : GoodT t.mod) (hgs : GoodT s.mod) (hf : w.cell? ⟨fb, 0, none⟩ = some (.func (.func 39) #[] #[])) :
    Calls Try.prog 42 #[.pointer (some ⟨t.tb, 0, none⟩), .pointer (some ⟨s.tb, 0, none⟩), .pointer (some ⟨fb, 0, none⟩)] w fun e w' => e = .returned (.bool (decide (t.mod = s.mod))) ∧ Fr w w' Nil := by
  have p0 := ht.blk.cell 0
  have p1 := ht.blk.cell 1
  have s0 := hs.blk.cell 0
  have s1 := hs.blk.cell 1
  obtain ⟨a, ca, hlv⟩ := ht.rl.shape2
  obtain ⟨b, cb, hlv2⟩ := hs.rl.shape2
  rw [hlv] at p1
  rw [hlv2] at s1
  have Ht := Lib.hid ht
  have Hs := Lib.hid hs
  have hgl := hgt.few
  have hgw : ∀ r ∈ t.rows, r.cols.length ≤ 1000000 := fun r hr => by
    have h1 := hgt.width (r.key, r.cols) (by simp only [GTab.mod, List.mem_map]; exact ⟨r, hr, rfl⟩)
    have h2 := hgt.le
    simp only at h1
    omega
  have hsw : ∀ r ∈ s.rows, r.cols.length ≤ 1000000 := fun r hr => by
    have h1 := hgs.width (r.key, r.cols) (by simp only [GTab.mod, List.mem_map]; exact ⟨r, hr, rfl⟩)
    have h2 := hgs.le
    simp only at h1
    omega
  have Hgw := Lib.hid hgw
  have Hsw := Lib.hid hsw
  have HL : Hid (t.rows.length ≤ 1000000) := by
    have : t.rows.length ≤ 1000000 := by simpa [GTab.mod] using hgl
    exact this
  have HE : Hid (RL w.drew (.slice a t.rows.length ca) t.rows ∧ RL w.drew (.slice b s.rows.length cb) s.rows) := by
    rw [← hlv, ← hlv2]
    exact ⟨Ht.out.rl.fr ((Fr.refl w Nil).drew) fun _ _ h => h, Hs.out.rl.fr ((Fr.refl w Nil).drew) fun _ _ h => h⟩
  clear ht hs hgt hgs hgl hgw hsw hlv hlv2
  by_cases hn : t.n = s.n
  · have f1 : ((t.n : Int) == (s.n : Int)) = true := by rw [beq_iff_eq]; omega
    have HD : Hid (decide (t.mod = s.mod) = decide (rowsOf t.rows = rowsOf s.rows)) := by
      have : decide (t.mod = s.mod) = decide (rowsOf t.rows = rowsOf s.rows) := by
        congr 1
        simp only [GTab.mod, Prod.mk.injEq, hn, true_and]
        rfl
      exact this
    clear hn
    go_enter Try.func42, Try.ntmps42
    go_wp2_with fail
    go_region_held3 (fun w' => w'.cell? ⟨t.tb, 0, none⟩ = some (.int .i64 t.n) ∧ w'.cell? ⟨t.tb, 1, none⟩ = some (.slice a t.rows.length ca) ∧ w'.cell? ⟨s.tb, 0, none⟩ = some (.int .i64 s.n) ∧ w'.cell? ⟨s.tb, 1, none⟩ = some (.slice b s.rows.length cb) ∧ w'.cell? ⟨fb, 0, none⟩ = some (.func (.func 39) #[] #[]))
      (first | go_keep | exact hS5)
      (first | (go_at_call 43; refine (eqrows_any _ _ t.rows s.rows _ HE.out.1 HE.out.2 HL.out Hgw.out Hsw.out).mono ?_; rintro e w5 ⟨rfl, hf5⟩; have hS5 := And.intro (hf5.cell p0 (fun h => h)) (And.intro (hf5.cell p1 (fun h => h)) (And.intro (hf5.cell s0 (fun h => h)) (And.intro (hf5.cell s1 (fun h => h)) (hf5.cell hf (fun h => h)))))))
    have Hf5 := Lib.hid ((Fr.refl w Nil).drew.trans0 hf5)
    clear hf5
    go_wp2_with fail
    go_ret
    exact ⟨by rw [HD.out]; rfl, Hf5.out⟩
  · have f1 : ((t.n : Int) == (s.n : Int)) = false := by rw [beq_eq_false_iff_ne]; omega
    have HD : Hid (decide (t.mod = s.mod) = false) := by
      have : decide (t.mod = s.mod) = false := decide_eq_false fun h => hn (congrArg Prod.fst h)
      exact this
    clear hn
    go_enter Try.func42, Try.ntmps42
    go_wp2_with fail
    go_quiet (fail)
    go_wp2_with fail
    go_ret
    exact ⟨by rw [HD.out]; rfl, (Fr.refl w Nil).drewN _⟩

theorem tabs_take_eq {g h : List GTab} {k : Nat} {r s : GTab} (hr : g[k]? = some r) (hs : h[k]? = some s) (hp : (g.take k).map GTab.mod = (h.take k).map GTab.mod) (e : r.mod = s.mod) : (g.take (k + 1)).map GTab.mod = (h.take (k + 1)).map GTab.mod := by
  rw [List.take_add_one, List.take_add_one, hr, hs, List.map_append, List.map_append, hp]
  simp [e]

set_option maxRecDepth 100000 in
set_option maxHeartbeats 1000000 in
theorem eqtabs_any (R Q : GRows) (fb : Nat) (w : World) (hR : RowsAt w R) (hQ : RowsAt w Q) (hg : Good R.mod) (hq : Good Q.mod) (hf : w.cell? ⟨fb, 0, none⟩ = some (.func (.func 39) #[] #[])) :
    Calls Try.prog 41 #[R.tv, Q.tv, .func (.func 42) #[] #[.pointer (some ⟨fb, 0, none⟩)]] w fun e w' => e = .returned (.bool (decide (R.mod = Q.mod))) ∧ Fr w w' Nil := by
  obtain ⟨a, ca, htv⟩ := hR.shape2
  obtain ⟨b, cb, htq⟩ := hQ.shape2
  have hl1 : R.tabs.length ≤ 1000000 := hg.lenR
  rw [htv, htq]
  have HTV := Lib.hid htv
  have HTQ := Lib.hid htq
  have HR := Lib.hid hR
  have HQ := Lib.hid hQ
  have HG1 : Hid (∀ t ∈ R.tabs, GoodT t.mod) := fun t ht => (hg.tabs t.mod (List.mem_map.2 ⟨t, ht, rfl⟩)).1
  have HG2 : Hid (∀ t ∈ Q.tabs, GoodT t.mod) := fun t ht => (hq.tabs t.mod (List.mem_map.2 ⟨t, ht, rfl⟩)).1
  clear hR hQ hg hq htv htq
  by_cases hl : R.tabs.length = Q.tabs.length
  · have hl2 : ((R.tabs.length : Int) != (Q.tabs.length : Int)) = false := by rw [bne_eq_false_iff_eq]; omega
    have Hl := Lib.hid hl
    clear hl
    go_enter Try.func41, Try.ntmps41
    go_wp2_with fail
    go_loopw [7, 8, 9, 17] (fun _ _ _ vi wr => ∃ k : Nat, k ≤ R.tabs.length ∧ vi = .int .i64 k ∧ (R.tabs.take k).map GTab.mod = (Q.tabs.take k).map GTab.mod ∧ Fr w wr Nil) (fun _ _ _ vi _ => R.tabs.length - (intOf vi).toNat)
    case atStart => exact ⟨0, by omega, rfl, by simp, Fr.refl _ _⟩
    case round =>
      obtain ⟨k, hk, rfl, htk, hfr⟩ := hrel
      have Htk := Lib.hid htk
      have Hf := Lib.hid hfr
      clear htk hfr
      by_cases hlt : k < R.tabs.length
      · have hlt' : k < Q.tabs.length := by have := Hl.out; omega
        have hg1 := List.getElem?_eq_getElem hlt
        have hg2 := List.getElem?_eq_getElem hlt'
        generalize R.tabs[k] = r at hg1
        generalize Q.tabs[k] = s at hg2
        have HU : RowsAt wr R := HR.out.fr Hf.out fun _ _ h => h
        have HV : RowsAt wr Q := HQ.out.fr Hf.out fun _ _ h => h
        obtain ⟨b1, c1, hv1, _⟩ : ∃ b cap, R.tv = .slice (some ⟨b, 0, none⟩) R.tabs.length cap ∧ True := by
          rcases HU.shape with ⟨_, h2⟩ | ⟨b, cap, h1, _⟩
          · rw [h2] at hlt; simp at hlt
          · exact ⟨b, cap, h1, trivial⟩
        obtain ⟨b2, c2, hv2, _⟩ : ∃ b' cap, Q.tv = .slice (some ⟨b', 0, none⟩) Q.tabs.length cap ∧ True := by
          rcases HV.shape with ⟨_, h2⟩ | ⟨b, cap, h1, _⟩
          · rw [h2] at hlt'; simp at hlt'
          · exact ⟨b, cap, h1, trivial⟩
        have p0 := HU.ptr hv1 k r hg1
        have s0 := HV.ptr hv2 k s hg2
        rw [HTV.out] at hv1
        rw [HTQ.out] at hv2
        simp only [Value.slice.injEq, true_and] at hv1 hv2
        obtain ⟨rfl, rfl⟩ := hv1
        obtain ⟨rfl, rfl⟩ := hv2
        have Hg1 := Lib.hid hg1
        have Hg2 := Lib.hid hg2
        have HT1 := Lib.hid (HU.tabs r (List.mem_of_getElem? hg1))
        have HT2 := Lib.hid (HV.tabs s (List.mem_of_getElem? hg2))
        have i1 : (k : Int) < (R.tabs.length : Int) := by omega
        have i2 : (k : Int) < (Q.tabs.length : Int) := by omega
        clear HU HV hg1 hg2
        go_wp2_with fail
        refine (same2_any r s fb _ HT1.out HT2.out (HG1.out r (List.mem_of_getElem? Hg1.out)) (HG2.out s (List.mem_of_getElem? Hg2.out)) (Hf.out.cell hf fun h => h)).mono ?_
        rintro e w' ⟨he, hf2⟩
        by_cases hms : r.mod = s.mod
        · rw [decide_eq_true hms] at he
          subst he
          have HT := Lib.hid (tabs_take_eq Hg1.out Hg2.out Htk.out hms)
          have Hf' := Lib.hid (Hf.out.trans0 hf2)
          clear hf2 hms
          go_wp2_with fail
          go_roundw
          case rel => exact ⟨k + 1, by omega, by go_num, HT.out, Hf'.out⟩
          case measure => simp [intOf]; omega
        · rw [decide_eq_false hms] at he
          subst he
          have HN : Hid (R.mod ≠ Q.mod) := by
            intro e
            have h1 : R.mod[k]? = Q.mod[k]? := by rw [e]
            simp only [GRows.mod, List.getElem?_map, Hg1.out, Hg2.out, Option.map_some, Option.some.injEq] at h1
            exact hms h1
          have Hf' := Lib.hid (Hf.out.trans0 hf2)
          clear hf2 hms
          go_wp2_with fail
          go_ret
          exact ⟨by rw [decide_eq_false HN.out]; rfl, Hf'.out⟩
      · have HE : Hid (R.mod = Q.mod) := by
          have h1 := Htk.out
          have h2 := Hl.out
          rw [List.take_of_length_le (by omega), List.take_of_length_le (by omega)] at h1
          exact h1
        go_wp2_with fail
        go_ret
        exact ⟨by rw [decide_eq_true HE.out]; rfl, Hf.out⟩
  · have hl2 : ((R.tabs.length : Int) != (Q.tabs.length : Int)) = true := by rw [bne_iff_ne]; omega
    have HN : Hid (R.mod ≠ Q.mod) := fun e => hl (by have := congrArg List.length e; simpa [GRows.mod] using this)
    clear hl
    go_enter Try.func41, Try.ntmps41
    go_wp2_with fail
    go_ret
    exact ⟨by rw [decide_eq_false HN.out]; rfl, Fr.refl _ _⟩
end Go.Proofs.Ytljgifjokdppgaa
