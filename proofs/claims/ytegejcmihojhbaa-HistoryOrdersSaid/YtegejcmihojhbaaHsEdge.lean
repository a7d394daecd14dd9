/-
  Walks of the document's edge and points: does a node point to another one?
  No condition but sizes.
-/
import Derived.Test.YtegejcmihojhbaaHsLeaf
namespace Go.Proofs.Ytegejcmihojhbaa
open Go Go.RowKit

set_option maxRecDepth 100000 in
set_option maxHeartbeats 400000 in
theorem edge_any (gv : Value) (G : List (List Int)) (a : Nat) (b : Int) (w : World) (hg : GraphAt w gv G) (ha : a < G.length) (_hl : G.length ≤ 100000) :
    Calls Try.prog 32 #[gv, .int .i64 (a : Int), .int .i64 b] w fun e w' => e = .returned (.bool ((G.getD a []).contains b)) ∧ w = w' := by
  obtain ⟨gb, goff, gcap, rfl, hgc⟩ := hg.form (by omega)
  obtain ⟨u, hu, hx, hxl⟩ := hgc a G[a] (List.getElem?_eq_getElem ha)
  have hgd : G.getD a [] = G[a] := by simp [List.getD_eq_getElem?_getD, ha]
  rw [hgd]
  clear hgd hgc hg
  generalize G[a] = xs at *
  obtain ⟨xa, xcap, rfl⟩ := hx.shape
  have HX := Lib.hid hx
  clear hx
  generalize hcc : xs.contains b = c
  have HC0 := Lib.hid hcc
  clear hcc
  go_enter Try.func32, Try.ntmps32
  go_wp2_with fail
  go_loop [7] (fun vi => ∃ k : Nat, k ≤ xs.length ∧ vi = .int .i64 k ∧ NotIn b (xs.take k)) (fun vi => xs.length - (intOf vi).toNat)
  case atStart => exact ⟨0, by omega, rfl, by simp [NotIn]⟩
  case round =>
    obtain ⟨k, hk, rfl, hn⟩ := hrel
    have Hn := Lib.hid hn
    clear hn
    by_cases hlt : k < xs.length
    · obtain ⟨xb, xoff, xcap2, hxv, hxc⟩ := HX.out.form (by omega)
      simp only [Value.slice.injEq, true_and] at hxv
      obtain ⟨rfl, rfl⟩ := hxv
      have hg := List.getElem?_eq_getElem hlt
      have hs := List.take_succ_eq_append_getElem hlt
      generalize xs[k] = y at hg hs
      have q := hxc k y hg
      have Hg := Lib.hid hg
      have Hs := Lib.hid hs
      clear hxc hg hs
      by_cases he : y = b
      · subst he
        have HC : Hid (c = true) := HC0.out.symm.trans (List.contains_iff_mem.2 (List.mem_of_getElem? Hg.out))
        go_wp2_with fail
        go_ret
        exact ⟨by rw [HC.out]; rfl, rfl⟩
      · have h1 : (y == b) = false := by simp [he]
        have HN : Hid (NotIn b (xs.take (k + 1))) := by
          unfold NotIn; rw [Hs.out]
          intro hm
          rcases List.mem_append.1 hm with hm | hm
          · exact Hn.out hm
          · simp at hm; exact he hm.symm
        clear he
        go_wp2_with fail
        go_round
        case rel => exact ⟨k + 1, by omega, by go_num, HN.out⟩
        case measure => simp [intOf]; omega
    · obtain rfl : k = xs.length := by omega
      have HC : Hid (c = false) := by
        have h := Hn.out
        rw [List.take_length] at h
        have : c = false := by
          cases hc : xs.contains b with
          | false => rw [← HC0.out, hc]
          | true => exact absurd (List.contains_iff_mem.1 hc) h
        exact this
      go_wp2_with fail
      go_ret
      exact ⟨by rw [HC.out]; rfl, rfl⟩


set_option maxRecDepth 100000 in
set_option maxHeartbeats 400000 in
theorem points_any (gv : Value) (G : List (List Int)) (a : Nat) (b : Int) (w : World) (hg : GraphAt w gv G) (ha : a < G.length) (_hl : G.length ≤ 100000) :
    Calls Try.prog 42 #[gv, .int .i64 (a : Int), .int .i64 b] w fun e w' => e = .returned (.bool ((G.getD a []).contains b)) ∧ w = w' := by
  obtain ⟨gb, goff, gcap, rfl, hgc⟩ := hg.form (by omega)
  obtain ⟨u, hu, hx, hxl⟩ := hgc a G[a] (List.getElem?_eq_getElem ha)
  have hgd : G.getD a [] = G[a] := by simp [List.getD_eq_getElem?_getD, ha]
  rw [hgd]
  clear hgd hgc hg
  generalize G[a] = xs at *
  obtain ⟨xa, xcap, rfl⟩ := hx.shape
  have HX := Lib.hid hx
  clear hx
  generalize hcc : xs.contains b = c
  have HC0 := Lib.hid hcc
  clear hcc
  go_enter Try.func42, Try.ntmps42
  go_wp2_with fail
  go_loop [7] (fun vi => ∃ k : Nat, k ≤ xs.length ∧ vi = .int .i64 k ∧ NotIn b (xs.take k)) (fun vi => xs.length - (intOf vi).toNat)
  case atStart => exact ⟨0, by omega, rfl, by simp [NotIn]⟩
  case round =>
    obtain ⟨k, hk, rfl, hn⟩ := hrel
    have Hn := Lib.hid hn
    clear hn
    by_cases hlt : k < xs.length
    · obtain ⟨xb, xoff, xcap2, hxv, hxc⟩ := HX.out.form (by omega)
      simp only [Value.slice.injEq, true_and] at hxv
      obtain ⟨rfl, rfl⟩ := hxv
      have hg := List.getElem?_eq_getElem hlt
      have hs := List.take_succ_eq_append_getElem hlt
      generalize xs[k] = y at hg hs
      have q := hxc k y hg
      have Hg := Lib.hid hg
      have Hs := Lib.hid hs
      clear hxc hg hs
      by_cases he : y = b
      · subst he
        have HC : Hid (c = true) := HC0.out.symm.trans (List.contains_iff_mem.2 (List.mem_of_getElem? Hg.out))
        go_wp2_with fail
        go_ret
        exact ⟨by rw [HC.out]; rfl, rfl⟩
      · have h1 : (y == b) = false := by simp [he]
        have HN : Hid (NotIn b (xs.take (k + 1))) := by
          unfold NotIn; rw [Hs.out]
          intro hm
          rcases List.mem_append.1 hm with hm | hm
          · exact Hn.out hm
          · simp at hm; exact he hm.symm
        clear he
        go_wp2_with fail
        go_round
        case rel => exact ⟨k + 1, by omega, by go_num, HN.out⟩
        case measure => simp [intOf]; omega
    · obtain rfl : k = xs.length := by omega
      have HC : Hid (c = false) := by
        have h := Hn.out
        rw [List.take_length] at h
        have : c = false := by
          cases hc : xs.contains b with
          | false => rw [← HC0.out, hc]
          | true => exact absurd (List.contains_iff_mem.1 hc) h
        exact this
      go_wp2_with fail
      go_ret
      exact ⟨by rw [HC.out]; rfl, rfl⟩

end Go.Proofs.Ytegejcmihojhbaa
