/-
  The document's history (interlockref19): walk of Conflict; the law's touches.
  No condition but sizes.
-/
import Derived.Test.YtegejcmihojhbaaHsLeaf
import Derived.Test.YtegejcmihojhbaaSink
namespace Go.Proofs.Ytegejcmihojhbaa
open Go Go.RowKit

set_option maxRecDepth 100000 in
set_option maxHeartbeats 1000000 in
theorem rconflict_any (a b : TouchD) (w : World) :
    Calls Try.prog 20 #[a.val, b.val] w fun e w' => e = .returned (.bool (conf a b)) ∧ Fr w w' Nil := by
  obtain ⟨aw, at_, ar, ak, awr, aok⟩ := a
  obtain ⟨bw, bt, br, bk, bwr, bok⟩ := b
  show Calls Try.prog 20 #[.agg #[.int .i64 aw, .int .i64 at_, .bool ar, .int .i64 ak, .bool awr], .agg #[.int .i64 bw, .int .i64 bt, .bool br, .int .i64 bk, .bool bwr]] w fun e w' => e = .returned (.bool (!(aw == bw) && (awr || bwr) && (at_ == bt) && (!ar || !br || ak == bk))) ∧ Fr w w' Nil
  clear aok bok
  have hf := ((Fr.refl w Nil).alloc (.cells #[.int .i64 aw, .int .i64 at_, .bool ar, .int .i64 ak, .bool awr] 55)).alloc (.cells #[.int .i64 bw, .int .i64 bt, .bool br, .int .i64 bk, .bool bwr] 55)
  have HF := Lib.hid hf
  clear hf
  cases h1 : (aw == bw)
  · cases awr
    · cases bwr
      · go_enter Try.func20, Try.ntmps20
        go_wp2_with fail
        go_ret
        exact ⟨rfl, HF.out⟩
      · cases h2 : (at_ == bt)
        · go_enter Try.func20, Try.ntmps20
          go_wp2_with fail
          go_ret
          exact ⟨by simp, HF.out⟩
        · cases ar <;> cases br <;> go_enter Try.func20, Try.ntmps20
          all_goals go_wp2_with fail
          all_goals go_ret
          all_goals exact ⟨by simp, HF.out⟩
    · cases h2 : (at_ == bt)
      · go_enter Try.func20, Try.ntmps20
        go_wp2_with fail
        go_ret
        exact ⟨by simp, HF.out⟩
      · cases ar <;> cases br <;> go_enter Try.func20, Try.ntmps20
        all_goals go_wp2_with fail
        all_goals go_ret
        all_goals exact ⟨by simp, HF.out⟩
  · go_enter Try.func20, Try.ntmps20
    go_wp2_with fail
    go_ret
    exact ⟨rfl, HF.out⟩
end Go.Proofs.Ytegejcmihojhbaa
