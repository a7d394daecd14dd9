/-
  Walks of Conflict, slices.Index and Contains of integers, slices.Clone of bools.
  No condition but sizes.
-/
import Derived.Test.YtegejcmihojhbaaHsMem
namespace Go.Proofs.Ytegejcmihojhbaa
open Go Go.RowKit

def idxP (xs : List Int) (x : Int) : Int := if xs.contains x then (xs.idxOf x : Int) else -1
def NotIn (x : Int) (l : List Int) : Prop := x ∉ l
theorem idx_hit {xs : List Int} {x : Int} {k : Nat} (hg : xs[k]? = some x) (hn : NotIn x (xs.take k)) : idxP xs x = k := by
  obtain ⟨h1, h2⟩ := split_at hg
  have hm : x ∈ xs := List.mem_of_getElem? hg
  unfold idxP
  rw [if_pos (List.contains_iff_mem.2 hm)]
  have : xs.idxOf x = k := by
    rw [h1, List.idxOf_append, if_neg hn, List.idxOf_cons_self, h2, Nat.zero_add]
  rw [this]
theorem idx_miss {xs : List Int} {x : Int} (hn : NotIn x xs) : idxP xs x = -1 := by
  unfold idxP
  rw [if_neg fun h => hn (List.contains_iff_mem.1 h)]
theorem idx_nonneg (xs : List Int) (x : Int) : decide (0 ≤ idxP xs x) = xs.contains x := by
  unfold idxP
  by_cases h : xs.contains x = true
  · rw [if_pos h, h, decide_eq_true_eq]; omega
  · rw [if_neg h]; simp at h; simp [h]

set_option maxRecDepth 100000 in
set_option maxHeartbeats 400000 in
theorem conflict_any (a b : TouchD) (w : World) :
    Calls Try.prog 19 #[a.val, b.val] w fun e w' => e = .returned (.bool (conf a b)) ∧ Fr w w' Nil := by
  obtain ⟨aw, at_, ar, ak, awr, aok⟩ := a
  obtain ⟨bw, bt, br, bk, bwr, bok⟩ := b
  show Calls Try.prog 19 #[.agg #[.int .i64 aw, .int .i64 at_, .bool ar, .int .i64 ak, .bool awr], .agg #[.int .i64 bw, .int .i64 bt, .bool br, .int .i64 bk, .bool bwr]] w fun e w' => e = .returned (.bool (!(aw == bw) && (awr || bwr) && (at_ == bt) && (!ar || !br || ak == bk))) ∧ Fr w w' Nil
  clear aok bok
  go_enter Try.func19, Try.ntmps19
  go_wp2_with fail
  all_goals go_ret
  all_goals (refine ⟨congrArg (fun z => Ending.returned (.bool z)) ?_, ((Fr.refl w Nil).alloc _).alloc _⟩; simp_all)

set_option maxRecDepth 100000 in
set_option maxHeartbeats 400000 in
theorem index_any (v : Value) (xs : List Int) (x : Int) (w : World) (h : IntsAt w v xs) (hl : xs.length ≤ 1000000) :
    Calls Try.prog 38 #[v, .int .i64 x] w fun e w' => e = .returned (.int .i64 (idxP xs x)) ∧ w = w' := by
  obtain ⟨a, cap, rfl⟩ := h.shape
  have H := Lib.hid h
  clear h
  go_enter Try.func38, Try.ntmps38
  go_wp2_with fail
  go_loop [5, 8] (fun _ vi => ∃ k : Nat, k ≤ xs.length ∧ vi = .int .i64 k ∧ NotIn x (xs.take k)) (fun _ vi => xs.length - (intOf vi).toNat)
  case atStart => exact ⟨0, by omega, rfl, by simp [NotIn]⟩
  case round =>
    obtain ⟨k, hk, rfl, hn⟩ := hrel
    have Hn := Lib.hid hn
    clear hn
    by_cases hlt : k < xs.length
    · obtain ⟨b, off, cap2, hv, hc⟩ := H.out.form (by omega)
      simp only [Value.slice.injEq, true_and] at hv
      obtain ⟨rfl, rfl⟩ := hv
      have hg := List.getElem?_eq_getElem hlt
      have hs := List.take_succ_eq_append_getElem hlt
      generalize xs[k] = y at hg hs
      have q := hc k y hg
      have Hg := Lib.hid hg
      have Hs := Lib.hid hs
      clear hc hg hs
      by_cases he : x = y
      · subst he
        go_wp2_with fail
        go_ret
        exact ⟨congrArg (fun z => Ending.returned (.int .i64 z)) (idx_hit Hg.out Hn.out).symm, rfl⟩
      · have h1 : (x == y) = false := by simp [he]
        have HN : Hid (NotIn x (xs.take (k + 1))) := by
          unfold NotIn; rw [Hs.out]
          intro hm
          rcases List.mem_append.1 hm with hm | hm
          · exact Hn.out hm
          · simp at hm; exact he hm
        clear he
        go_wp2_with fail
        go_round
        case rel => exact ⟨k + 1, by omega, by go_num, HN.out⟩
        case measure => simp [intOf]; omega
    · go_wp2_with fail
      go_ret
      obtain rfl : k = xs.length := by omega
      refine ⟨congrArg (fun z => Ending.returned (.int .i64 z)) (idx_miss ?_).symm, rfl⟩
      have := Hn.out
      rwa [List.take_length] at this
set_option maxRecDepth 100000 in
set_option maxHeartbeats 400000 in
theorem contains_any (v : Value) (xs : List Int) (x : Int) (w : World) (h : IntsAt w v xs) (hl : xs.length ≤ 1000000) :
    Calls Try.prog 29 #[v, .int .i64 x] w fun e w' => e = .returned (.bool (xs.contains x)) ∧ w = w' := by
  obtain ⟨a, cap, rfl⟩ := h.shape
  have H := Lib.hid h
  clear h
  go_enter Try.func29, Try.ntmps29
  go_wp2_with fail
  refine (index_any _ xs x _ H.out hl).mono ?_
  rintro e w' ⟨rfl, rfl⟩
  go_wp2_with fail
  go_ret
  exact ⟨congrArg (fun z => Ending.returned (.bool z)) (idx_nonneg xs x), rfl⟩

/-- What Clone hands back: the same bools, in a row of the call's own. -/
def CloneRet (bl : List Bool) (w : World) (e : Ending) (w' : World) : Prop :=
  ∃ a cap, e = .returned (.slice a bl.length cap) ∧ w'.ownsRow 0 4 1 (.slice a bl.length cap) bl.length (bl.map Value.bool) ∧ NewFrom w.heap.size (.slice a bl.length cap) ∧ Fr w w' Nil
set_option maxRecDepth 100000 in
set_option maxHeartbeats 400000 in
theorem clone_bools (v : Value) (bl : List Bool) (w : World) (h : BoolsAt w v bl) (hl : bl.length ≤ 1000000) :
    Calls Try.prog 41 #[v] w (CloneRet bl w) := by
  have hon : ∀ u ∈ bl.map Value.bool, u.oneCell' = true := by
    intro u hu
    obtain ⟨x, _, rfl⟩ := List.mem_map.1 hu
    rfl
  have Hon := Lib.hid hon
  clear hon
  rcases h.2 with ⟨rfl, hn⟩ | ⟨a, cap, rfl, hc⟩
  · obtain rfl : bl = [] := List.eq_nil_of_length_eq_zero hn
    clear h hn
    have e0 := fun (w : World) => Lib.run_eql_slice_nil (P := Try.prog) w 69 4 none 0 0 0 0 Try.underlying69
    go_enter Try.func41, Try.ntmps41
    go_wp2_with fail
    go_ret
    exact ⟨none, 0, rfl, World.ownsRow_nil _ _ _ _, fun k hk => by simp [Value.ownBlock] at hk, Fr.refl _ _⟩
  · have H := Lib.hid h
    clear hc h
    have e0 := fun (w : World) => Lib.run_eql_slice_nil (P := Try.prog) w 69 4 (some a) bl.length cap 0 0 Try.underlying69
    go_enter Try.func41, Try.ntmps41
    go_wp2_with (at_builtin; refine wpList_app _ rfl _ _ 69 rfl Try.sltBool _ rfl (World.ownsRow_made (base := 0) (size := 1) _ #[] 0 (Nat.zero_le _) (by decide) rfl) _ rfl (H.out.fr0 ((Fr.refl w Nil).alloc _)) Hon.out (by omega) ?_)
    intro g cap' w' ho hg hb
    try simp only [Nat.zero_add] at ho
    try simp only [List.nil_append] at ho
    try simp only [Nat.zero_add] at hb
    have Ho := Lib.hid ho
    have Hg := Lib.hid hg
    have Hb := Lib.hid hb
    clear ho hg hb
    try simp only [Nat.zero_add]
    go_wp2
    go_ret
    refine ⟨_, _, rfl, Ho.out, fun k hk => ?_, ?_⟩
    · have hb := Hb.out
      rw [hk] at hb
      rcases hb with h | h
      · simp [Value.ownBlock] at h; omega
      · simp at h; omega
    · refine ((Fr.refl w Nil).alloc _).grown Hg.out ?_
      intro k hk hlt
      simp [Value.ownBlock] at hk
      omega
end Go.Proofs.Ytegejcmihojhbaa
