/-
  Walk of Is: is it an order?
  No condition but sizes.
-/
import Derived.Test.YtegejcmihojhbaaHsOrder
namespace Go.Proofs.Ytegejcmihojhbaa
open Go Go.RowKit

theorem ints_contains {l : List Nat} {x : Nat} : (ints l).contains (x : Int) = l.contains x := by
  rw [Bool.eq_iff_iff, List.contains_iff_mem, List.contains_iff_mem]
  unfold ints
  rw [List.mem_map]
  constructor
  · rintro ⟨a, ha, e⟩
    have : a = x := by omega
    subst this; exact ha
  · intro h; exact ⟨x, h, rfl⟩
def Steps (G : List (List Int)) (ord : List Int) (k : Nat) : Prop := ∀ p, p < k → isStep G ord p = true
theorem isP_false {G : List (List Int)} {ord : List Int} {k : Nat} (hk : k < ord.length) (h : isStep G ord k = false) : isP G ord = false := by
  cases hp : isP G ord with
  | false => rfl
  | true =>
    unfold isP at hp
    simp only [Bool.and_eq_true, List.all_eq_true, List.mem_range] at hp
    rw [hp.2 k hk] at h; cases h
theorem isP_true {G : List (List Int)} {ord : List Int} (hl : ord.length = G.length) (h : Steps G ord ord.length) : isP G ord = true := by
  unfold isP
  simp only [Bool.and_eq_true, List.all_eq_true, List.mem_range, decide_eq_true_eq]
  exact ⟨hl, h⟩
theorem isP_len {G : List (List Int)} {ord : List Int} (hl : ord.length ≠ G.length) : isP G ord = false := by
  unfold isP
  rw [decide_eq_false hl]; rfl
def nats (ord : List Int) (k : Nat) : List Nat := (ord.take k).map Int.toNat
theorem step_at {G : List (List Int)} {ord : List Int} {k : Nat} {x : Int} (h : ord[k]? = some x) : isStep G ord k = (decide (0 ≤ x) && decide (x < G.length) && (nextO G (nats ord k)).contains x.toNat) := by
  unfold isStep nats
  rw [show ord.getD k 0 = x by simp [List.getD_eq_getElem?_getD, h]]
theorem nats_succ {ord : List Int} {k : Nat} {x : Int} (h : ord[k]? = some x) : nats ord (k + 1) = nats ord k ++ [x.toNat] := by
  unfold nats
  rw [List.take_add_one, h]
  simp

set_option maxRecDepth 100000 in
set_option maxHeartbeats 1000000 in
theorem is_any (gv ov : Value) (G : List (List Int)) (ord : List Int) (w : World) (hg : GraphAt w gv G) (ho : IntsAt w ov ord) (hl : G.length ≤ 100000) :
    Calls Try.prog 15 #[gv, ov] w fun e w' => e = .returned (.bool (isP G ord)) ∧ Fr w w' Nil := by
  obtain ⟨ib, hib, hz0, hz1, hz2⟩ := info_parts (P := Try.prog) (e := 4) (z := .bool false) (size := 1) (bytes := 1) (by kernel_rfl)
  obtain ⟨ga, gcap, rfl⟩ := hg.shape
  obtain ⟨oa, ocap, rfl⟩ := ho.shape
  have HG := Lib.hid hg
  have HO := Lib.hid ho
  clear hg ho
  by_cases hlen : ord.length = G.length
  rotate_left
  · have hne : ((ord.length : Int) != (G.length : Int)) = true := by rw [bne_iff_ne]; omega
    have HR := Lib.hid (isP_len hlen)
    clear hlen
    go_enter Try.func15, Try.ntmps15
    go_wp2_with fail
    go_ret
    exact ⟨by rw [HR.out]; rfl, Fr.refl _ _⟩
  · have hne : ((ord.length : Int) != (G.length : Int)) = false := by rw [bne_eq_false_iff_eq]; omega
    have HL := Lib.hid hlen
    have hol2 : ord.length ≤ 100000 := by omega
    clear hlen
    have Hb1 : Hid (ib.bytes * G.length ≤ 281474976710656) := by
      have : ib.bytes * G.length ≤ 281474976710656 := by rw [hz2]; omega
      exact this
    have Hb2 : Hid (G.length ≤ maxLen) := by
      have : G.length ≤ maxLen := by unfold maxLen; omega
      exact this
    go_enter Try.func15, Try.ntmps15
    go_wp2_with (first | (at_make; refine wpList_make_full _ rfl _ _ 69 rfl 0 4 ib (.bool false) 1 Try.underlying69 hib hz0 hz1 _ _ _ _ G.length rfl rfl rfl rfl Hb1.out Hb2.out (Nat.zero_le _) ?_; intro w1 hown hgr) | (fail))
    have HB0 : Hid (OwnBools w1 w.heap.size G.length G.length (thOf G.length [])) := own_made hown
    have Hf0 : Hid (Fr w w1 Nil) := (Fr.refl w Nil).grown hgr (fun k hk => by cases hk)
    clear hown hgr
    go_loopw [7, 18] (fun _ vi wr => ∃ k : Nat, k ≤ ord.length ∧ vi = .int .i64 k ∧ Steps G ord k ∧ OwnBools wr w.heap.size G.length G.length (thOf G.length (nats ord k)) ∧ Fr w wr Nil)
      (fun _ vi _ => ord.length - (intOf vi).toNat)
    case atStart => exact ⟨0, by omega, rfl, fun p hp => by omega, HB0.out, Hf0.out⟩
    case round =>
      obtain ⟨k, hk, rfl, hst, hth, hf⟩ := hrel
      have Hst := Lib.hid hst
      have Hth := Lib.hid hth
      have Hf := Lib.hid hf
      clear hst hth hf
      by_cases hlt : k < ord.length
      · obtain ⟨ob, ooff, ocap2, hov, hoc⟩ := (HO.out.fr Hf.out fun _ _ h => h).form (by omega)
        simp only [Value.slice.injEq, true_and] at hov
        obtain ⟨rfl, rfl⟩ := hov
        have hx := List.getElem?_eq_getElem hlt
        have q0 := hoc k _ hx
        have Hs := Lib.hid (step_at (G := G) hx)
        have Hn := Lib.hid (nats_succ hx)
        generalize ord[k] = x at *
        clear hoc hx
        by_cases h0 : x < 0
        · have HR : Hid (isP G ord = false) := by
            refine isP_false (k := k) hlt ?_
            rw [Hs.out, decide_eq_false (show ¬ 0 ≤ x by omega)]; rfl
          go_wp2_with fail
          go_ret
          exact ⟨by rw [HR.out]; rfl, Hf.out⟩
        · have h0' : 0 ≤ x := by omega
          clear h0
          by_cases h1 : (G.length : Int) ≤ x
          · have HR : Hid (isP G ord = false) := by
              refine isP_false (k := k) hlt ?_
              rw [Hs.out, decide_eq_true h0', decide_eq_false (show ¬ x < G.length by omega)]; rfl
            go_wp2_with fail
            go_ret
            exact ⟨by rw [HR.out]; rfl, Hf.out⟩
          · have h1' : x < (G.length : Int) := by omega
            clear h1
            obtain ⟨j, rfl⟩ := Int.eq_ofNat_of_zero_le h0'
            have hnl := next_len G (nats ord k)
            go_wp2_with fail
            refine (next_any _ _ G (nats ord k) _ (HG.out.fr0 Hf.out) (Hth.out.at (thOf_len _ _)) hl).mono ?_
            rintro e w2 ⟨la, lcap, rfl, hlo, _, hf2⟩
            have Hlo := Lib.hid hlo.at
            have Hf2 := Lib.hid hf2
            clear hlo hf2
            go_wp2_with fail
            refine (contains_any _ (ints (nextO G (nats ord k))) j _ ?_ ?_).mono ?_
            · exact Hlo.out
            · rw [ints_len]; omega
            rintro e w3 ⟨rfl, rfl⟩
            rw [ints_contains]
            have Hc : Hid (isStep G ord k = (nextO G (nats ord k)).contains j) := by
              have : isStep G ord k = (nextO G (nats ord k)).contains j := by
                rw [Hs.out, decide_eq_true h0', decide_eq_true h1']; rfl
              exact this
            generalize (nextO G (nats ord k)).contains j = c at *
            cases c with
            | false =>
              have HR : Hid (isP G ord = false) := isP_false hlt Hc.out
              go_wp2_with fail
              go_ret
              exact ⟨by rw [HR.out]; rfl, Hf.out.trans0 Hf2.out⟩
            | true =>
              have hj : j < G.length := by omega
              have q1 := OwnBools.cell (Hth.out.fr0 Hf2.out) (thOf_len _ _) j hj
              have q2 := OwnBools.free (Hth.out.fr0 Hf2.out) j
              go_wp2_with fail
              go_roundw
              case rel =>
                refine ⟨k + 1, by omega, by go_num, fun p hp => ?_, ?_, (Hf.out.trans0 Hf2.out).setCell (fun h => absurd h (by simp)) _⟩
                · by_cases e : p = k
                  · subst e; exact Hc.out
                  · exact Hst.out p (by omega)
                · rw [Hn.out, ← thOf_set]
                  exact (Hth.out.fr0 Hf2.out).set j true
              case measure => simp [intOf]; omega
      · obtain rfl : k = ord.length := by omega
        have HR : Hid (isP G ord = true) := isP_true HL.out Hst.out
        go_wp2_with fail
        go_ret
        exact ⟨by rw [HR.out]; rfl, Hf.out⟩
end Go.Proofs.Ytegejcmihojhbaa
