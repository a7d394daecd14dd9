/-
  Walks of the document's points, way and Acyclic.
  No condition but sizes.
-/
import Derived.Test.YtkeiphmhckkniaaWtSnoc
import Derived.Test.YtkeiphmhckkniaaHsWay
namespace Go.Proofs.Ytkeiphmhckkniaa
open Go Go.RowKit

def NotIn (x : Int) (l : List Int) : Prop := x ∉ l
set_option maxRecDepth 100000 in
set_option maxHeartbeats 400000 in
theorem points_any (gv : Value) (G : List (List Int)) (a : Nat) (b : Int) (w : World) (hg : GraphAt w gv G) (ha : a < G.length) (_hl : G.length ≤ 100000) :
    Calls Try.prog 30 #[gv, .int .i64 (a : Int), .int .i64 b] w fun e w' => e = .returned (.bool ((G.getD a []).contains b)) ∧ w = w' := by
  obtain ⟨gb, goff, gcap, rfl, hgc⟩ := hg.form (by omega)
  obtain ⟨u, hu, hx, hxl⟩ := hgc a G[a] (List.getElem?_eq_getElem ha)
  have hgd : G.getD a [] = G[a] := by simp [List.getD_eq_getElem?_getD, ha]
  rw [hgd]
  clear hgd hgc hg
  generalize G[a] = xs at *
  obtain ⟨xa, xcap, rfl⟩ := hx.shape
  have HX := Lib.hid hx
  clear hx
  generalize hcc : xs.contains b = c
  have HC0 := Lib.hid hcc
  clear hcc
  go_enter Try.func30, Try.ntmps30
  go_wp2_with fail
  go_loop [7] (fun vi => ∃ k : Nat, k ≤ xs.length ∧ vi = .int .i64 k ∧ NotIn b (xs.take k)) (fun vi => xs.length - (intOf vi).toNat)
  case atStart => exact ⟨0, by omega, rfl, by simp [NotIn]⟩
  case round =>
    obtain ⟨k, hk, rfl, hn⟩ := hrel
    have Hn := Lib.hid hn
    clear hn
    by_cases hlt : k < xs.length
    · obtain ⟨xb, xoff, xcap2, hxv, hxc⟩ := HX.out.form (by omega)
      simp only [Value.slice.injEq, true_and] at hxv
      obtain ⟨rfl, rfl⟩ := hxv
      have hg := List.getElem?_eq_getElem hlt
      have hs := List.take_succ_eq_append_getElem hlt
      generalize xs[k] = y at hg hs
      have q := hxc k y hg
      have Hg := Lib.hid hg
      have Hs := Lib.hid hs
      clear hxc hg hs
      by_cases he : y = b
      · subst he
        have HC : Hid (c = true) := HC0.out.symm.trans (List.contains_iff_mem.2 (List.mem_of_getElem? Hg.out))
        go_wp2_with fail
        go_ret
        exact ⟨by rw [HC.out]; rfl, rfl⟩
      · have h1 : (y == b) = false := by simp [he]
        have HN : Hid (NotIn b (xs.take (k + 1))) := by
          unfold NotIn; rw [Hs.out]
          intro hm
          rcases List.mem_append.1 hm with hm | hm
          · exact Hn.out hm
          · simp at hm; exact he hm.symm
        clear he
        go_wp2_with fail
        go_round
        case rel => exact ⟨k + 1, by omega, by go_num, HN.out⟩
        case measure => simp [intOf]; omega
    · obtain rfl : k = xs.length := by omega
      have HC : Hid (c = false) := by
        have h := Hn.out
        rw [List.take_length] at h
        have : c = false := by
          cases hc : xs.contains b with
          | false => rw [← HC0.out, hc]
          | true => exact absurd (List.contains_iff_mem.1 hc) h
        exact this
      go_wp2_with fail
      go_ret
      exact ⟨by rw [HC.out]; rfl, rfl⟩

theorem own_reps {w : World} {b n : Nat} (h : OwnBools w b n n (thOf n [])) : OwnBools w b n n (List.replicate n false) := by rw [← thOf_nil]; exact h

set_option maxRecDepth 100000 in
set_option maxHeartbeats 2000000 in
theorem way_any (gv : Value) (G : List (List Int)) (s t : Nat) (w : World) (hg : GraphAt w gv G) (ht : t < G.length) (hl : G.length ≤ 100000) :
    Calls Try.prog 33 #[gv, .int .i64 (s : Int), .int .i64 (t : Int)] w fun e w' => e = .returned (.bool (wayP G s t)) ∧ Fr w w' Nil := by
  obtain ⟨ib, hib, hz0, hz1, hz2⟩ := info_parts (P := Try.prog) (e := 4) (z := .bool false) (size := 1) (bytes := 1) (by kernel_rfl)
  obtain ⟨ga, gcap, rfl⟩ := hg.shape
  have HG := Lib.hid hg
  clear hg
  have Hb1 : Hid (ib.bytes * G.length ≤ 281474976710656) := by
    have : ib.bytes * G.length ≤ 281474976710656 := by rw [hz2]; omega
    exact this
  have Hb2 : Hid (G.length ≤ maxLen) := by
    have : G.length ≤ maxLen := by unfold maxLen; omega
    exact this
  generalize hres : wayP G s t = res
  have HR : Hid ((wayGo G s (G.length + 1)).getD t false = res) := hres
  clear hres
  go_enter Try.func33, Try.ntmps33
  go_wp2_with (first | (at_make; refine wpList_make_full _ rfl _ _ 51 rfl 0 4 ib (.bool false) 1 Try.underlying51 hib hz0 hz1 _ _ _ _ G.length rfl rfl rfl rfl Hb1.out Hb2.out (Nat.zero_le _) ?_; intro w1 hown hgr) | (fail))
  have HB0 : Hid (OwnBools w1 w.heap.size G.length G.length (List.replicate G.length false)) := own_reps (own_made hown)
  have Hf0 : Hid (Fr w w1 Nil) := (Fr.refl w Nil).grown hgr (fun k hk => by cases hk)
  clear hown hgr
  go_loopw [8, 9, 10] (fun vr _ _ wr => ∃ r : Nat, r ≤ G.length + 1 ∧ vr = .int .i64 r ∧ OwnBools wr w.heap.size G.length G.length (wayGo G s r) ∧ Fr w wr Nil)
    (fun vr _ _ _ => G.length + 1 - (intOf vr).toNat)
  case atStart => exact ⟨0, by omega, rfl, HB0.out, Hf0.out⟩
  case round =>
    clear HB0 Hf0
    obtain ⟨r, hr, rfl, hb, hf⟩ := hrel
    obtain ⟨wo, rfl⟩ : ∃ wo : World, wo = wr := ⟨_, rfl⟩
    have Hb := Lib.hid hb
    have Hf := Lib.hid hf
    clear hb hf
    by_cases hlt : r ≤ G.length
    · have HS := Lib.hid (wayGo_succ G s r)
      have HN := Lib.hid (wayGo_len G s r)
      generalize wayGo G s r = i0 at *
      go_wp2_with fail
      go_loopw [9, 10] (fun va _ wr => ∃ a : Nat, a ≤ G.length ∧ va = .int .i64 a ∧ OwnBools wr w.heap.size G.length G.length (wayRound G s i0 a) ∧ Fr w wr Nil)
        (fun va _ _ => G.length - (intOf va).toNat)
      case atStart => exact ⟨0, by omega, rfl, Hb.out, Hf.out⟩
      case round =>
        clear Hb Hf
        obtain ⟨a, ha, rfl, hb, hf⟩ := hrel
        obtain ⟨wi, rfl⟩ : ∃ wi : World, wi = wr := ⟨_, rfl⟩
        have Hb := Lib.hid hb
        have Hf := Lib.hid hf
        clear hb hf
        by_cases hla : a < G.length
        · have HS1 := Lib.hid (wayRound_succ G s i0 a)
          have HN1 : Hid ((wayRound G s i0 a).length = G.length) := by
            have : (wayRound G s i0 a).length = G.length := by rw [wayRound_len, HN.out]
            exact this
          generalize wayRound G s i0 a = i1 at *
          go_wp2_with fail
          go_loopw [10] (fun vb wr => ∃ b : Nat, b ≤ G.length ∧ vb = .int .i64 b ∧ OwnBools wr w.heap.size G.length G.length (wayRow G s i1 a b) ∧ Fr w wr Nil)
            (fun vb _ => G.length - (intOf vb).toNat)
          case atStart => exact ⟨0, by omega, rfl, Hb.out, Hf.out⟩
          case round =>
            clear Hb Hf
            obtain ⟨b, hb0, rfl, hb, hf⟩ := hrel
            have Hb := Lib.hid hb
            have Hf := Lib.hid hf
            clear hb hf
            by_cases hlb : b < G.length
            · have HS2 := Lib.hid (wayRow_succ G s i1 a b)
              have HN2 : Hid ((wayRow G s i1 a b).length = G.length) := by
                have : (wayRow G s i1 a b).length = G.length := by rw [wayRow_len, HN1.out]
                exact this
              generalize wayRow G s i1 a b = i2 at *
              have q1 := OwnBools.cell Hb.out HN2.out b hlb
              have q2 := OwnBools.cell Hb.out HN2.out a hla
              have q3 := OwnBools.free Hb.out b
              have HGr := Lib.hid (HG.out.fr0 Hf.out)
              have HE : Hid (∀ v, v = (i2.getD b false || ((G.getD a []).contains (b : Int) && (decide (a = s) || i2.getD a false))) → OwnBools (wr.setCell ⟨w.heap.size, b, none⟩ (.bool v)) w.heap.size G.length G.length (wayRow G s i1 a (b + 1))) := by
                intro v hv
                rw [HS2.out]
                unfold wayStep sees
                rw [← hv]
                exact Hb.out.set b v
              clear HS2
              generalize hb1 : i2.getD b false = x1 at *
              generalize hb2 : i2.getD a false = x2 at *
              clear hb1 hb2
              cases x1 with
              | true =>
                go_wp2_with fail
                go_roundw
                case rel => exact ⟨b + 1, by omega, by go_num, HE.out _ (by rfl), Hf.out.setCell (fun h => absurd h (by simp)) _⟩
                case measure => simp [intOf]; omega
              | false =>
                go_wp2_with fail
                refine (points_any _ G a b _ HGr.out hla hl).mono ?_
                rintro e w2 ⟨rfl, rfl⟩
                generalize (G.getD a []).contains (b : Int) = c at *
                cases c with
                | false =>
                  go_wp2_with fail
                  go_roundw
                  case rel => exact ⟨b + 1, by omega, by go_num, HE.out _ (by rfl), Hf.out.setCell (fun h => absurd h (by simp)) _⟩
                  case measure => simp [intOf]; omega
                | true =>
                  by_cases has : a = s
                  · have h1 : ((a : Int) == (s : Int)) = true := by rw [beq_iff_eq]; omega
                    have HE2 := Lib.hid (HE.out true (by rw [decide_eq_true has]; rfl))
                    clear HE has
                    go_wp2_with fail
                    go_roundw
                    case rel => exact ⟨b + 1, by omega, by go_num, HE2.out, Hf.out.setCell (fun h => absurd h (by simp)) _⟩
                    case measure => simp [intOf]; omega
                  · have h1 : ((a : Int) == (s : Int)) = false := by rw [beq_eq_false_iff_ne]; omega
                    have HE2 := Lib.hid (HE.out x2 (by rw [decide_eq_false has]; cases x2 <;> rfl))
                    clear HE has
                    go_wp2_with fail
                    go_roundw
                    case rel => exact ⟨b + 1, by omega, by go_num, HE2.out, Hf.out.setCell (fun h => absurd h (by simp)) _⟩
                    case measure => simp [intOf]; omega
            · obtain rfl : b = G.length := by omega
              go_wp2_with fail
              go_roundw
              case rel => exact ⟨a + 1, by omega, by go_num, by rw [HS1.out]; exact Hb.out, Hf.out⟩
              case measure => simp [intOf]; omega
        · obtain rfl : a = G.length := by omega
          go_wp2_with fail
          go_roundw
          case rel => exact ⟨r + 1, by omega, by go_num, by rw [HS.out]; exact Hb.out, Hf.out⟩
          case measure => simp [intOf]; omega
    · obtain rfl : r = G.length + 1 := by omega
      have q0 := OwnBools.cell Hb.out (wayGo_len _ _ _) t ht
      rw [HR.out] at q0
      go_wp2_with fail
      go_ret
      exact ⟨rfl, Hf.out⟩

def Apart (G : List (List Int)) (k : Nat) : Prop := ∀ i, i < k → wayP G i i = false
set_option maxRecDepth 100000 in
set_option maxHeartbeats 1000000 in
theorem acyc_any (gv : Value) (G : List (List Int)) (w : World) (hg : GraphAt w gv G) (hl : G.length ≤ 100000) :
    Calls Try.prog 19 #[gv] w fun e w' => e = .returned (.bool (acycP G)) ∧ Fr w w' Nil := by
  obtain ⟨ga, gcap, rfl⟩ := hg.shape
  have HG := Lib.hid hg
  clear hg
  generalize hres : acycP G = res
  have HR := Lib.hid hres
  clear hres
  go_enter Try.func19, Try.ntmps19
  go_wp2_with fail
  go_loopw [3] (fun vi wr => ∃ k : Nat, k ≤ G.length ∧ vi = .int .i64 k ∧ Apart G k ∧ Fr w wr Nil) (fun vi _ => G.length - (intOf vi).toNat)
  case atStart => exact ⟨0, by omega, rfl, fun i hi => by omega, Fr.refl _ _⟩
  case round =>
    obtain ⟨k, hk, rfl, ha, hf⟩ := hrel
    have Ha := Lib.hid ha
    have Hf := Lib.hid hf
    clear ha hf
    by_cases hlt : k < G.length
    · go_wp2_with fail
      refine (way_any _ G k k _ (HG.out.fr0 Hf.out) hlt hl).mono ?_
      rintro e w2 ⟨rfl, hf2⟩
      have Hf2 := Lib.hid hf2
      clear hf2
      have HW : Hid (wayP G k k = wayP G k k) := rfl
      generalize hc : wayP G k k = c at *
      have HC := Lib.hid hc
      clear hc HW
      cases c with
      | true =>
        have HF : Hid (res = false) := by
          have : res = false := by
            rw [← HR.out]
            cases hp : acycP G with
            | false => rfl
            | true =>
              unfold acycP at hp
              simp only [List.all_eq_true, List.mem_range, Bool.not_eq_true'] at hp
              have := hp k hlt
              rw [HC.out] at this; cases this
          exact this
        go_wp2_with fail
        go_ret
        exact ⟨by rw [HF.out]; rfl, Hf.out.trans0 Hf2.out⟩
      | false =>
        go_wp2_with fail
        go_roundw
        case rel =>
          refine ⟨k + 1, by omega, by go_num, fun i hi => ?_, Hf.out.trans0 Hf2.out⟩
          by_cases e : i = k
          · subst e; exact HC.out
          · exact Ha.out i (by omega)
        case measure => simp [intOf]; omega
    · obtain rfl : k = G.length := by omega
      have HF : Hid (res = true) := by
        have : res = true := by
          rw [← HR.out]
          unfold acycP
          simp only [List.all_eq_true, List.mem_range, Bool.not_eq_true']
          exact Ha.out
        exact this
      go_wp2_with fail
      go_ret
      exact ⟨by rw [HF.out]; rfl, Hf.out⟩
end Go.Proofs.Ytkeiphmhckkniaa
