/-
  Walk of rows.Same: are rows the same?
  No condition but sizes.
-/
import Derived.Test.YtljgifjokdppgaaRwSame2
import Derived.Laws.EntriesVeiled
namespace Go.Proofs.Ytljgifjokdppgaa
open Go Go.RowKit
attribute [local go_sem ↓] Go.wp_at_zero Go.wp_at_succ

set_option maxRecDepth 100000 in
set_option maxHeartbeats 1000000 in
theorem rsame_any (R Q : GRows) (w : World) (hR : RowsAt w R) (hQ : RowsAt w Q) (hg : Good R.mod) (hq : Good Q.mod) :
    Calls Try.prog 22 #[R.val, Q.val] w fun e w' => e = .returned (.bool (decide (R.mod = Q.mod))) ∧ Fr w w' Nil := by
  have hfa : Fr w (w.alloc (Obj.cells #[.func (.func 39) #[] #[]] 86)) Nil := (Fr.refl w Nil).alloc _
  have HR := Lib.hid ((hR.fr hfa fun _ _ h => h).fr ((Fr.refl _ Nil).drew) fun _ _ h => h)
  have HQ := Lib.hid ((hQ.fr hfa fun _ _ h => h).fr ((Fr.refl _ Nil).drew) fun _ _ h => h)
  have HG := Lib.hid hg
  have HG2 := Lib.hid hq
  have HF := Lib.hid hfa
  have p0 := hfa.cell (hR.root.cell 0) (fun h => h)
  have p1 := hfa.cell (hQ.root.cell 0) (fun h => h)
  have pf := (Bk.new w 86 #[.func (.func 39) #[] #[]]).cell 0
  obtain ⟨a, ca, htv⟩ := hR.shape2
  obtain ⟨b, cb, htq⟩ := hQ.shape2
  have HE := Lib.hid (eqtabs_any R Q w.heap.size _ HR.out HQ.out hg hq pf)
  rw [htv] at p0 HE
  rw [htq] at p1 HE
  clear hR hQ hg hq hfa htv htq
  go_enter Try.func22, Try.ntmps22
  go_wp2_with fail
  go_region_held3 (fun w' => w'.cell? ⟨R.rb, 0, none⟩ = some (.slice a R.tabs.length ca) ∧ w'.cell? ⟨Q.rb, 0, none⟩ = some (.slice b Q.tabs.length cb))
    (first | go_keep | exact hS5)
    (first | (go_at_call 41; refine HE.out.mono ?_; rintro e w5 ⟨rfl, hf5⟩; have hS5 := And.intro (hf5.cell p0 (fun h => h)) (hf5.cell p1 (fun h => h))))
  have Hf5 := Lib.hid (HF.out.drew.trans0 hf5)
  clear hf5
  go_wp2_with fail
  go_ret
  exact ⟨rfl, Hf5.out⟩
end Go.Proofs.Ytljgifjokdppgaa
