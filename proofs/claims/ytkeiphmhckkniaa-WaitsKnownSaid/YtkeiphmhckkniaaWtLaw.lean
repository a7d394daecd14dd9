/-
  Walks of what the statements of layer 12 share: SameInts, has, few, sameRows, own.
  No condition but sizes.
-/
import Derived.Test.YtkeiphmhckkniaaWtPts
import Derived.BigQuiet
import Derived.Deep.QuietTactic
namespace Go.Proofs.Ytkeiphmhckkniaa
open Go Go.RowKit

theorem IntsAt.formN {w : World} {a : Option Addr} {n c : Nat} {xs : List Int} (h : IntsAt w (.slice a n c) xs) (hn : 0 < xs.length) : ∃ b off, a = some ⟨b, off, none⟩ ∧ n = xs.length ∧ ∀ j x, xs[j]? = some x → w.cell? ⟨b, off + j, none⟩ = some (.int .i64 x) := by
  obtain ⟨b, off, cap, hv, hc⟩ := h.form hn
  simp only [Value.slice.injEq] at hv
  obtain ⟨rfl, rfl, rfl⟩ := hv
  exact ⟨b, off, rfl, rfl, hc⟩
def SameTo' (xs ys : List Int) (k : Nat) : Prop := xs.take k = ys.take k
set_option maxHeartbeats 400000 in
theorem sameInts_any (a b : Value) (xs ys : List Int) (w : World) (ha : IntsAt w a xs) (hb : IntsAt w b ys) (hl : xs.length ≤ 1000000) (hl2 : ys.length ≤ 1000000) :
    Calls Try.prog 15 #[a, b] w fun e w' => e = .returned (.bool (decide (xs = ys))) ∧ Fr w w' Nil := by
  generalize hres : decide (xs = ys) = res
  have HR := Lib.hid hres
  obtain ⟨aa, ac, rfl⟩ := ha.shape
  obtain ⟨ba, bc, rfl⟩ := hb.shape
  have HA := Lib.hid ha
  have HB := Lib.hid hb
  clear ha hb hres
  by_cases hlen : xs.length = ys.length
  · have HLN := Lib.hid hlen
    rw [← hlen] at HB ⊢
    clear hlen
    go_enter Try.func15, Try.ntmps15
    go_wp2_with fail
    go_loopw [5] (fun vi wr => ∃ k : Nat, k ≤ xs.length ∧ vi = .int .i64 (k : Int) ∧ SameTo' xs ys k ∧ Fr w wr Nil) (fun vi _ => xs.length - (intOf vi).toNat)
    case atStart => exact ⟨0, by omega, rfl, rfl, Fr.refl _ _⟩
    case round =>
      obtain ⟨k, hk, rfl, hs, hf⟩ := hrel
      have HS := Lib.hid hs
      have HF := Lib.hid hf
      clear hs hf
      by_cases hlt : k < xs.length
      · have hkl : (k : Int) < (xs.length : Int) := by omega
        obtain ⟨xb, xo, rfl, -, hxc⟩ := HA.out.formN (by omega)
        obtain ⟨yb, yo, rfl, -, hyc⟩ := HB.out.formN (by have := HLN.out; omega)
        have hy : k < ys.length := by have := HLN.out; omega
        have q0 := HF.out.cell (hxc k _ (List.getElem?_eq_getElem hlt)) (fun h => h)
        have q1 := HF.out.cell (hyc k _ (List.getElem?_eq_getElem hy)) (fun h => h)
        have HX : Hid (xs.take (k + 1) = xs.take k ++ [xs[k]] ∧ ys.take (k + 1) = ys.take k ++ [ys[k]]) := ⟨List.take_succ_eq_append_getElem hlt, List.take_succ_eq_append_getElem hy⟩
        have HNE : Hid (xs[k] ≠ ys[k] → res = false) := fun h => by
          rw [← HR.out]
          exact decide_eq_false (fun e => h (by subst e; rfl))
        generalize xs[k] = x at *
        generalize ys[k] = y at *
        clear hxc hyc hy
        cases hb : (x == y) with
        | true =>
          have h1 : (x != y) = false := by simp [bne, hb]
          have HE := Lib.hid (eq_of_beq hb)
          clear hb
          go_wp2_with fail
          go_quiet (fail)
          rename_i nq
          go_wp2_with fail
          go_roundw
          case rel => exact ⟨k + 1, by omega, by go_num, by have h9 := HS.out; unfold SameTo' at h9 ⊢; rw [HX.out.1, HX.out.2, HE.out, h9], HF.out.drewN nq⟩
          case measure => simp [intOf]; omega
        | false =>
          have h1 : (x != y) = true := by simp [bne, hb]
          have HE : Hid (res = false) := HNE.out (fun e => by rw [e] at hb; simp at hb)
          clear hb
          go_wp2_with fail
          go_quiet (fail)
          rename_i nq
          go_wp2_with fail
          go_ret
          exact ⟨by rw [HE.out]; rfl, HF.out.drewN nq⟩
      · obtain rfl : k = xs.length := by omega
        have HE : Hid (res = true) := by
          have h1 := HS.out
          unfold SameTo' at h1
          rw [List.take_length, HLN.out, List.take_length] at h1
          have : res = true := by rw [← HR.out]; exact decide_eq_true h1
          exact this
        go_wp2_with fail
        go_ret
        exact ⟨by rw [HE.out]; rfl, HF.out⟩
  · have HE : Hid (res = false) := by
      have : res = false := by rw [← HR.out]; exact decide_eq_false (fun e => hlen (by rw [e]))
      exact this
    have h1 : ((xs.length : Int) != (ys.length : Int)) = true := by simp; omega
    clear hlen
    go_enter Try.func15, Try.ntmps15
    go_wp2_with fail
    go_ret
    exact ⟨by rw [HE.out]; rfl, Fr.refl _ _⟩
theorem has_any (a : Value) (xs : List Int) (n : Int) (w : World) (ha : IntsAt w a xs) (hl : xs.length ≤ 1000000) :
    Calls Try.prog 25 #[a, .int .i64 n] w fun e w' => e = .returned (.bool (xs.contains n)) ∧ w = w' := by
  obtain ⟨xa, xcap, rfl⟩ := ha.shape
  have HX := Lib.hid ha
  clear ha
  generalize hcc : xs.contains n = c
  have HC0 := Lib.hid hcc
  clear hcc
  go_enter Try.func25, Try.ntmps25
  go_wp2_with fail
  go_loop [5] (fun vi => ∃ k : Nat, k ≤ xs.length ∧ vi = .int .i64 k ∧ NotIn n (xs.take k)) (fun vi => xs.length - (intOf vi).toNat)
  case atStart => exact ⟨0, by omega, rfl, by simp [NotIn]⟩
  case round =>
    obtain ⟨k, hk, rfl, hn⟩ := hrel
    have Hn := Lib.hid hn
    clear hn
    by_cases hlt : k < xs.length
    · obtain ⟨xb, xoff, xcap2, hxv, hxc⟩ := HX.out.form (by omega)
      simp only [Value.slice.injEq, true_and] at hxv
      obtain ⟨rfl, rfl⟩ := hxv
      have hg := List.getElem?_eq_getElem hlt
      have hs := List.take_succ_eq_append_getElem hlt
      generalize xs[k] = y at hg hs
      have q := hxc k y hg
      have Hg := Lib.hid hg
      have Hs := Lib.hid hs
      clear hxc hg hs
      by_cases he : y = n
      · subst he
        have HC : Hid (c = true) := HC0.out.symm.trans (List.contains_iff_mem.2 (List.mem_of_getElem? Hg.out))
        go_wp2_with fail
        go_ret
        exact ⟨by rw [HC.out]; rfl, rfl⟩
      · have h1 : (y == n) = false := by simp [he]
        have HN : Hid (NotIn n (xs.take (k + 1))) := by
          unfold NotIn; rw [Hs.out]
          intro hm
          rcases List.mem_append.1 hm with hm | hm
          · exact Hn.out hm
          · simp at hm; exact he hm.symm
        clear he
        go_wp2_with fail
        go_round
        case rel => exact ⟨k + 1, by omega, by go_num, HN.out⟩
        case measure => simp [intOf]; omega
    · obtain rfl : k = xs.length := by omega
      have HC : Hid (c = false) := by
        have h := Hn.out
        rw [List.take_length] at h
        have : c = false := by
          cases hc : xs.contains n with
          | false => rw [← HC0.out, hc]
          | true => exact absurd (List.contains_iff_mem.1 hc) h
        exact this
      go_wp2_with fail
      go_ret
      exact ⟨by rw [HC.out]; rfl, rfl⟩
/-- A graph that came in. -/
def GraphW (w : World) (v : Value) (G : List (List Int)) : Prop :=
  ∃ vs, SlAt w 1 v G.length vs ∧ G.length ≤ 9223372036854775807 ∧ ∀ (i : Nat) (xs : List Int), G[i]? = some xs → ∃ u, vs[i]? = some u ∧ IntsAt w u xs ∧ xs.length ≤ 9223372036854775807
theorem GraphW.shape {w : World} {v : Value} {G : List (List Int)} (h : GraphW w v G) : ∃ a cap, v = .slice a G.length cap := by
  obtain ⟨vs, h1, _⟩ := h
  exact h1.shape
theorem GraphW.form {w : World} {v : Value} {G : List (List Int)} (h : GraphW w v G) (hn : 0 < G.length) : ∃ b off cap, v = .slice (some ⟨b, off, none⟩) G.length cap ∧ ∀ i xs, G[i]? = some xs → ∃ a c, w.cell? ⟨b, off + i, none⟩ = some (.slice a xs.length c) ∧ xs.length ≤ 9223372036854775807 := by
  obtain ⟨vs, h1, _, h2⟩ := h
  obtain ⟨b, off, cap, rfl, hc⟩ := h1.form (by decide) hn
  refine ⟨b, off, cap, rfl, fun i xs hi => ?_⟩
  obtain ⟨u, hu, hx, hl⟩ := h2 i xs hi
  obtain ⟨a, c, rfl⟩ := hx.shape
  exact ⟨a, c, hc i _ hu, hl⟩
def fewP (G : List (List Int)) (top : Nat) : Bool := decide (G.length ≤ top) && G.all fun xs => decide (xs.length ≤ top + 10)
theorem fewP_true {G : List (List Int)} {top : Nat} (h : fewP G top = true) : G.length ≤ top ∧ ∀ xs ∈ G, xs.length ≤ top + 10 := by
  unfold fewP at h
  simpa using h
theorem GraphW.at {w : World} {v : Value} {G : List (List Int)} {top : Nat} (h : GraphW w v G) (hf : fewP G top = true) (ht : top ≤ 1000) : GraphAt w v G := by
  obtain ⟨vs, h1, _, h2⟩ := h
  refine ⟨vs, h1, fun i xs hi => ?_⟩
  obtain ⟨u, hu, hx, _⟩ := h2 i xs hi
  exact ⟨u, hu, hx, by have := (fewP_true hf).2 xs (List.mem_of_getElem? hi); omega⟩
def FewTo (G : List (List Int)) (top k : Nat) : Prop := ∀ xs ∈ G.take k, xs.length ≤ top + 10
set_option maxHeartbeats 400000 in
theorem few_any (gv : Value) (G : List (List Int)) (top : Nat) (w : World) (h : GraphW w gv G) (ht : top ≤ 1000) :
    Calls Try.prog 10 #[gv, .int .i64 (top : Int)] w fun e w' => e = .returned (.bool (fewP G top)) ∧ w = w' := by
  obtain ⟨ga, gc, rfl⟩ := h.shape
  have H := Lib.hid h
  have hgl : G.length ≤ 9223372036854775807 := by obtain ⟨_, _, h2, _⟩ := h; exact h2
  clear h
  generalize hres : fewP G top = res
  have HR := Lib.hid hres
  clear hres
  by_cases htop : G.length ≤ top
  · have hgl2 : G.length ≤ 1000 := by omega
    have htt : (G.length : Int) ≤ (top : Int) := by omega
    clear hgl
    go_enter Try.func10, Try.ntmps10
    go_wp2_with fail
    go_loop [5] (fun vi => ∃ k : Nat, k ≤ G.length ∧ vi = .int .i64 k ∧ FewTo G top k) (fun vi => G.length - (intOf vi).toNat)
    case atStart => exact ⟨0, by omega, rfl, fun xs hx => by simp at hx⟩
    case round =>
      obtain ⟨k, hk, rfl, hn⟩ := hrel
      have Hn := Lib.hid hn
      clear hn
      by_cases hlt : k < G.length
      · have hkl : (k : Int) < (G.length : Int) := by omega
        obtain ⟨gb, go, cap2, hv, hc⟩ := H.out.form (by omega)
        simp only [Value.slice.injEq, true_and] at hv
        obtain ⟨rfl, rfl⟩ := hv
        have hg := List.getElem?_eq_getElem hlt
        have hs := List.take_succ_eq_append_getElem hlt
        generalize G[k] = xs at hg hs
        obtain ⟨xa, xc, q, hxl⟩ := hc k xs hg
        have Hg := Lib.hid hg
        have Hs := Lib.hid hs
        clear hc hg hs
        by_cases hx : xs.length ≤ top + 10
        · have hxx : (xs.length : Int) ≤ (top : Int) + 10 := by omega
          have HN : Hid (FewTo G top (k + 1)) := by
            unfold FewTo; rw [Hs.out]
            intro ys hy
            rcases List.mem_append.1 hy with hy | hy
            · exact Hn.out ys hy
            · rw [List.mem_singleton.1 hy]; exact hx
          go_wp2_with fail
          go_round
          case rel => exact ⟨k + 1, by omega, by go_num, HN.out⟩
          case measure => simp [intOf]; omega
        · have hxx : (top : Int) + 10 < (xs.length : Int) := by omega
          have HC : Hid (res = false) := by
            have : res = false := by
              rw [← HR.out]
              cases hf : fewP G top with
              | false => rfl
              | true => exact absurd ((fewP_true hf).2 xs (List.mem_of_getElem? Hg.out)) hx
            exact this
          go_wp2_with fail
          go_ret
          exact ⟨by rw [HC.out]; rfl, rfl⟩
      · obtain rfl : k = G.length := by omega
        have HC : Hid (res = true) := by
          have h := Hn.out
          unfold FewTo at h
          rw [List.take_length] at h
          have : res = true := by
            rw [← HR.out]
            unfold fewP
            simp only [Bool.and_eq_true, decide_eq_true_eq, List.all_eq_true]
            exact ⟨htop, h⟩
          exact this
        go_wp2_with fail
        go_ret
        exact ⟨by rw [HC.out]; rfl, rfl⟩
  · have htt : (top : Int) < (G.length : Int) := by omega
    have HC : Hid (res = false) := by
      have : res = false := by
        rw [← HR.out]
        cases hf : fewP G top with
        | false => rfl
        | true => exact absurd (fewP_true hf).1 htop
      exact this
    go_enter Try.func10, Try.ntmps10
    go_wp2_with fail
    go_ret
    exact ⟨by rw [HC.out]; rfl, rfl⟩
end Go.Proofs.Ytkeiphmhckkniaa
