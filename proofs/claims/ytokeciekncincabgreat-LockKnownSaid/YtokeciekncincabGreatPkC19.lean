/-
  Walk of Cancel.
  No condition but sizes.
-/
import Derived.Test.YtokeciekncincabGreatPkC17
import Derived.Test.YtokeciekncincabGreatPkC13
namespace Go.Proofs.YtokeciekncincabGreat
open Go Go.RowKit Go.Maps

set_option maxRecDepth 100000 in
set_option maxHeartbeats 4000000 in
theorem cancel_any {lb : Nat} {D : LkS} {S : Nat → Prop} {N : Nat} (who : Int) (w : World) (h : LkA w lb D S) (hD : DOk N D) (hN : N ≤ 100000) (hw : (Lit.int .i64 who).wf = true) :
    Calls Tryz.prog 13 #[lkp lb, .int .i64 who] w (FreeRet lb N (cancelL D who) S w) := by
  have cL := leaves_any (N := N) who w h hD hN hw
  have HD := Lib.hid hD
  have HN := Lib.hid hN
  have HLT := Lib.hid h.lt
  clear h hD hN hw
  go_enter Tryz.func13, Tryz.ntmps13
  go_wp2_with fail
  refine cL.mono ?_
  rintro e w1 (⟨hwi, rfl, hA, hf⟩ | ⟨x, hwi, rfl, hI, hf⟩)
  · have hfl : cancelL D who = (([], 5), D) := by unfold cancelL; rw [hwi]
    have HFL := Lib.hid hfl
    have HA := Lib.hid hA
    have HF := Lib.hid hf
    clear cL hwi hA hf hfl
    go_wp2_with fail
    go_ret2
    show FreeRet lb N (cancelL D who) S w _ _
    rw [HFL.out]
    exact ⟨_, rfl, World.ownsRow_nil _ _ _ _, (fun k hk => by cases hk), HA.out.fr0 ((Fr.refl w1 Nil).alloc _), HD.out, HF.out.alloc _⟩
  · have hfl : cancelL D who = (((wokenL { D with W := dropA D.W who } [x.s]).1, 0), (wokenL { D with W := dropA D.W who } [x.s]).2) := by unfold cancelL; rw [hwi]
    have hws : SWf x.s := (HD.out.wf.2 x (wish_some hwi).1).2
    obtain ⟨s, hs⟩ : ∃ s, x.s = s := ⟨_, rfl⟩
    rw [hs] at hws hI hfl ⊢
    have HFL := Lib.hid hfl
    obtain ⟨sb, wb, G, hv, _⟩ := hI
    obtain ⟨w2, hw2⟩ : ∃ w2, w1.alloc (.cells #[.int .i64 s.1, .bool s.2.1, .int .i64 s.2.2] 30) = w2 := ⟨_, rfl⟩
    have hf2 : Fr w1 w2 Nil := by rw [← hw2]; exact (Fr.refl w1 Nil).alloc _
    have hb2 : Bk w2 w1.heap.size 30 [.int .i64 s.1, .bool s.2.1, .int .i64 s.2.2] := by rw [← hw2]; exact Bk.new w1 _ _
    have r0 : w2.cell? ⟨w1.heap.size, 0, none⟩ = some (.int .i64 s.1) := hb2.cell 0
    have r1 : w2.cell? ⟨w1.heap.size, 1, none⟩ = some (.bool s.2.1) := hb2.cell 1
    have r2 : w2.cell? ⟨w1.heap.size, 2, none⟩ = some (.int .i64 s.2.2) := hb2.cell 2
    obtain ⟨w3, hw3⟩ : ∃ w3, w2.alloc (.cells #[.int .i64 s.1, .bool s.2.1, .int .i64 s.2.2] 30) = w3 := ⟨_, rfl⟩
    have hf3 : Fr w2 w3 Nil := by rw [← hw3]; exact (Fr.refl w2 Nil).alloc _
    have hsl : SlAt w3 3 (.slice (some ⟨w2.heap.size, 0, none⟩) 1 1) 1 (sp3 s) := by rw [← hw3]; exact sp_new w2 s
    have hsz3 : w3.heap.size = w2.heap.size + 1 := by rw [← hw3]; simp
    have hz2 := hf2.size
    have hz1 := hf.size
    have hfw := hf2.trans0 hf3
    have cW := woken_any (ss := [s]) (N := N) HN.out (hv.fr0 hfw) (HD.out.unwait who) (v := .slice (some ⟨w2.heap.size, 0, none⟩) 1 1) (by simpa using hsl) (fun k hk => by
      have hk2 : w2.heap.size = k := Option.some.inj hk
      subst hk2
      refine ⟨fun h => ?_, by omega⟩
      have := HLT.out _ h
      omega) (fun s' hs' => by rw [List.mem_singleton] at hs'; subst hs'; exact hws) (by simp)
    have HFW := Lib.hid hfw
    have HF := Lib.hid hf
    clear cL hwi hfl hws hs hv hf2 hb2 hf3 hsl hsz3 hz2 hz1 hfw hf
    go_wp2_with fail
    refine cW.mono ?_
    rintro e w5 ⟨ov, G5, rfl, o1, o2, o3, o4, o5⟩
    obtain ⟨oa, oc, rfl⟩ := o1.shape
    have O1 := Lib.hid o1
    have O2 := Lib.hid o2
    have O3 := Lib.hid o3
    have O4 := Lib.hid o4
    have O5 := Lib.hid o5
    clear o1 o2 o3 o4 o5 cW r0 r1 r2
    go_wp2_with fail
    go_ret2
    show FreeRet lb N (cancelL D who) S w _ _
    rw [HFL.out]
    refine ⟨_, rfl, O1.out, fun k hk => ?_, ⟨sb, wb, G5, O3.out⟩, O4.out, (HF.out.trans (HFW.out.of_nil (S := S)) fun _ _ h => h).trans O5.out fun _ _ h => h⟩
    have := O2.out k hk
    have := HF.out.size
    have := HFW.out.size
    omega
end Go.Proofs.YtokeciekncincabGreat
