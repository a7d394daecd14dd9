/-
  Walk of the document's Is.
  No condition but sizes.
-/
import Derived.Test.YtegejcmihojhbaaHsIs
import Derived.Test.YtegejcmihojhbaaHsEdge
import Derived.Deep.QuietTactic
import Derived.BigQuiet
namespace Go.Proofs.Ytegejcmihojhbaa
open Go Go.RowKit

def RSteps (G : List (List Int)) (ord : List Int) (k : Nat) : Prop := ∀ p, p < k → isRow G ord p = true
theorem isR_false {G : List (List Int)} {ord : List Int} {k : Nat} (hk : k < ord.length) (h : isRow G ord k = false) : isR G ord = false := by
  cases hp : isR G ord with
  | false => rfl
  | true =>
    unfold isR at hp
    simp only [Bool.and_eq_true, List.all_eq_true, List.mem_range] at hp
    rw [hp.2 k hk] at h; cases h
theorem isR_true {G : List (List Int)} {ord : List Int} (hl : ord.length = G.length) (h : RSteps G ord ord.length) : isR G ord = true := by
  unfold isR
  simp only [Bool.and_eq_true, List.all_eq_true, List.mem_range, decide_eq_true_eq]
  exact ⟨hl, h⟩
theorem isR_len {G : List (List Int)} {ord : List Int} (hl : ord.length ≠ G.length) : isR G ord = false := by
  unfold isR
  rw [decide_eq_false hl]; rfl
/-- What stands ahead of k goes with what stands at p. -/
def rowTo (G : List (List Int)) (ord : List Int) (x : Nat) (k : Nat) : Prop := ∀ j, j < k → ord.getD j 0 ≠ (x : Int) ∧ sees G x (ord.getD j 0).toNat = false
theorem row_true {G : List (List Int)} {ord : List Int} {p x : Nat} (hx : ord.getD p 0 = (x : Int)) (hl : x < G.length) (hs : sees G x x = false) (h : rowTo G ord x p) : isRow G ord p = true := by
  refine isRow_iff.2 ⟨by omega, by omega, ?_, fun k hk => ?_⟩
  · rw [hx]; exact hs
  · rw [hx]; exact h k hk
theorem row_neg {G : List (List Int)} {ord : List Int} {p : Nat} (h : ord.getD p 0 < 0 ∨ (G.length : Int) ≤ ord.getD p 0) : isRow G ord p = false := by
  cases hp : isRow G ord p with
  | false => rfl
  | true => obtain ⟨a, b, _⟩ := isRow_iff.1 hp; omega
theorem row_self {G : List (List Int)} {ord : List Int} {p x : Nat} (hx : ord.getD p 0 = (x : Int)) (hs : sees G x x = true) : isRow G ord p = false := by
  cases hp : isRow G ord p with
  | false => rfl
  | true =>
    obtain ⟨a, b, c, d⟩ := isRow_iff.1 hp
    rw [hx] at c
    have : sees G x x = false := c
    rw [hs] at this; cases this
theorem row_at {G : List (List Int)} {ord : List Int} {p x k : Nat} (hx : ord.getD p 0 = (x : Int)) (hk : k < p) (h : ord.getD k 0 = (x : Int) ∨ sees G x (ord.getD k 0).toNat = true) : isRow G ord p = false := by
  cases hp : isRow G ord p with
  | false => rfl
  | true =>
    obtain ⟨a, b, c, d⟩ := isRow_iff.1 hp
    have := d k hk
    rw [hx] at this
    rcases h with h | h
    · exact absurd h this.1
    · have h2 : sees G x (ord.getD k 0).toNat = false := this.2
      rw [h] at h2; cases h2

set_option maxRecDepth 100000 in
set_option maxHeartbeats 2000000 in
theorem ris_any (gv ov : Value) (G : List (List Int)) (ord : List Int) (w : World) (hg : GraphAt w gv G) (ho : IntsAt w ov ord) (hl : G.length ≤ 100000) :
    Calls Try.prog 16 #[gv, ov] w fun e w' => e = .returned (.bool (isR G ord)) ∧ Fr w w' Nil := by
  obtain ⟨ga, gcap, rfl⟩ := hg.shape
  obtain ⟨oa, ocap, rfl⟩ := ho.shape
  have HG := Lib.hid hg
  have HO := Lib.hid ho
  clear hg ho
  by_cases hlen : ord.length = G.length
  rotate_left
  · have hne : ((ord.length : Int) != (G.length : Int)) = true := by rw [bne_iff_ne]; omega
    have HR := Lib.hid (isR_len hlen)
    clear hlen
    go_enter Try.func16, Try.ntmps16
    go_wp2_with fail
    go_ret
    exact ⟨by rw [HR.out]; rfl, Fr.refl _ _⟩
  · have hne : ((ord.length : Int) != (G.length : Int)) = false := by rw [bne_eq_false_iff_eq]; omega
    have HL := Lib.hid hlen
    have hol2 : ord.length ≤ 100000 := by omega
    clear hlen
    go_enter Try.func16, Try.ntmps16
    go_wp2_with fail
    go_loopw [5, 6] (fun vi _ wr => ∃ k : Nat, k ≤ ord.length ∧ vi = .int .i64 k ∧ RSteps G ord k ∧ Fr w wr Nil) (fun vi _ _ => ord.length - (intOf vi).toNat)
    case atStart => exact ⟨0, by omega, rfl, fun p hp => by omega, Fr.refl _ _⟩
    case round =>
      obtain ⟨k, hk, rfl, hst, hf⟩ := hrel
      obtain ⟨wo, rfl⟩ : ∃ wo : World, wo = wr := ⟨_, rfl⟩
      have Hst := Lib.hid hst
      have Hf := Lib.hid hf
      clear hst hf
      by_cases hlt : k < ord.length
      · obtain ⟨ob, ooff, ocap2, hov, hoc⟩ := (HO.out.fr Hf.out fun _ _ h => h).form (by omega)
        simp only [Value.slice.injEq, true_and] at hov
        obtain ⟨rfl, rfl⟩ := hov
        have hx := List.getElem?_eq_getElem hlt
        have q0 := hoc k _ hx
        have hxd : ord.getD k 0 = ord[k] := by simp [List.getD_eq_getElem?_getD, hlt]
        have hki : (k : Int) < (ord.length : Int) := by omega
        have Hq00 : Hid (∀ v, Fr w v Nil → v.cell? ⟨ob, ooff + k, none⟩ = some (.int .i64 ord[k])) := by
          intro v hv
          obtain ⟨ob2, ooff2, ocap3, hov2, hoc2⟩ := (HO.out.fr hv fun _ _ h => h).form (by omega)
          simp only [Value.slice.injEq, Option.some.injEq, Addr.mk.injEq, true_and, and_true] at hov2
          obtain ⟨⟨rfl, rfl⟩, rfl⟩ := hov2
          exact hoc2 k _ hx
        generalize ord[k] = x at *
        have HXD := Lib.hid hxd
        clear hoc hx hxd
        by_cases h0 : x < 0
        · have HR := Lib.hid (isR_false hlt (row_neg (G := G) (.inl (by rw [HXD.out]; exact h0))))
          have d0 : decide (x < 0) = true := by simpa using h0
          go_wp2_with fail
          go_quiet (fail)
          go_wp2_with fail
          go_ret
          exact ⟨by rw [HR.out]; rfl, Hf.out.drewN _⟩
        · have h0' : 0 ≤ x := by omega
          have d0 : decide (x < 0) = false := by simpa using h0
          clear h0
          by_cases h1 : (G.length : Int) ≤ x
          · have HR := Lib.hid (isR_false hlt (row_neg (G := G) (.inr (by rw [HXD.out]; exact h1))))
            have d1 : decide ((G.length : Int) ≤ x) = true := by simpa using h1
            go_wp2_with fail
            go_quiet (fail)
            go_wp2_with fail
            go_ret
            exact ⟨by rw [HR.out]; rfl, Hf.out.drewN _⟩
          · have h1' : x < (G.length : Int) := by omega
            have d1 : decide ((G.length : Int) ≤ x) = false := by simpa using h1
            clear h1
            obtain ⟨j, rfl⟩ := Int.eq_ofNat_of_zero_le h0'
            have hj : j < G.length := by omega
            have HGo := Lib.hid (HG.out.fr0 Hf.out)
            have d2 : decide (G.length ≤ j) = false := by simp; omega
            have HE : ∀ (j2 : Nat) (c : Bool) (v : World), Fr w v Nil → (G.getD j []).contains (j2 : Int) = c → Calls Try.prog 32 #[.slice ga G.length gcap, .int .i64 (j : Int), .int .i64 (j2 : Int)] v fun e w' => e = .returned (.bool c) ∧ w' = v := fun j2 c v hv hc =>
              (edge_any (.slice ga G.length gcap) G j (j2 : Int) v (HG.out.fr0 hv) hj hl).mono fun e w' h => ⟨by rw [← hc]; exact h.1, h.2.symm⟩
            have HE2 := Lib.hid HE
            clear HE
            have HS : Hid ((G.getD j []).contains (j : Int) = sees G j j) := rfl
            cases hs : sees G j j with
            | true =>
              have HR := Lib.hid (isR_false hlt (row_self (G := G) HXD.out hs))
              have HC := Lib.hid (HS.out.trans hs)
              clear hs
              go_wp2_with fail
              go_quiet ((go_at_call 32; exact Calls.quiet_of_same (HE2.out j true _ (Hf.out.drewN _) HC.out)))
              go_wp2_with fail
              go_ret
              exact ⟨by rw [HR.out]; rfl, Hf.out.drewN _⟩
            | false =>
              have HC := Lib.hid (HS.out.trans hs)
              have HSF := Lib.hid hs
              clear hs HS
              go_wp2_with fail
              go_quiet ((go_at_call 32; exact Calls.quiet_of_same (HE2.out j false _ (Hf.out.drewN _) HC.out)))
              have Hf2 := Lib.hid (Hf.out.drewN nq)
              have Hq0 : Hid (∀ v, Fr w v Nil → v.cell? ⟨ob, ooff + k, none⟩ = some (.int .i64 (j : Int))) := Hq00.out
              clear Hf Hq00
              generalize wo.drewN nq = wp at *
              go_wp2_with fail
              go_loopw [6] (fun vk wr => ∃ m : Nat, m ≤ k ∧ vk = .int .i64 m ∧ rowTo G ord j m ∧ Fr w wr Nil) (fun vk _ => k - (intOf vk).toNat)
              case atStart => exact ⟨0, by omega, rfl, fun p hp => by omega, Hf2.out⟩
              case round =>
                clear Hf2
                obtain ⟨m, hm, rfl, hrt, hf⟩ := hrel
                have Hrt := Lib.hid hrt
                have Hf := Lib.hid hf
                clear hrt hf
                by_cases hlm : m < k
                · have hrm := isRow_iff.1 (Hst.out m hlm)
                  obtain ⟨ob2, ooff2, ocap3, hov2, hoc2⟩ := (HO.out.fr Hf.out fun _ _ h => h).form (by omega)
                  simp only [Value.slice.injEq, Option.some.injEq, Addr.mk.injEq, true_and, and_true] at hov2
                  obtain ⟨⟨rfl, rfl⟩, rfl⟩ := hov2
                  have hlm2 : m < ord.length := by omega
                  have q1 := hoc2 m _ (List.getElem?_eq_getElem hlm2)
                  have q2 := Hq0.out _ Hf.out
                  have hyd : ord.getD m 0 = ord[m] := by simp [List.getD_eq_getElem?_getD, hlm2]
                  rw [hyd] at hrm
                  obtain ⟨y0, y1, _, _⟩ := hrm
                  generalize ord[m] = y at *
                  obtain ⟨j2, rfl⟩ := Int.eq_ofNat_of_zero_le y0
                  have HYD := Lib.hid hyd
                  have hmi : (m : Int) < (ord.length : Int) := by omega
                  clear hyd hoc2
                  by_cases he : j2 = j
                  · have hb : ((j2 : Int) == (j : Int)) = true := by rw [beq_iff_eq]; omega
                    have HR := Lib.hid (isR_false hlt (row_at (G := G) HXD.out hlm (.inl (by rw [HYD.out, he]))))
                    clear he
                    go_wp2_with fail
                    go_quiet (fail)
                    go_wp2_with fail
                    go_ret
                    exact ⟨by rw [HR.out]; rfl, Hf.out.drewN _⟩
                  · have hb : ((j2 : Int) == (j : Int)) = false := by rw [beq_eq_false_iff_ne]; omega
                    have HS : Hid ((G.getD j []).contains (j2 : Int) = sees G j j2) := rfl
                    have HNE : Hid (ord.getD m 0 ≠ (j : Int)) := by
                      have : ord.getD m 0 ≠ (j : Int) := by rw [HYD.out]; omega
                      exact this
                    clear he
                    cases hs : sees G j j2 with
                    | true =>
                      have HR := Lib.hid (isR_false hlt (row_at (G := G) HXD.out hlm (.inr (by rw [HYD.out]; exact hs))))
                      have HC := Lib.hid (HS.out.trans hs)
                      clear hs HS
                      go_wp2_with fail
                      go_quiet ((go_at_call 32; exact Calls.quiet_of_same (HE2.out j2 true _ (Hf.out.drewN _) HC.out)))
                      go_wp2_with fail
                      go_ret
                      exact ⟨by rw [HR.out]; rfl, Hf.out.drewN _⟩
                    | false =>
                      have HC := Lib.hid (HS.out.trans hs)
                      have HSF2 := Lib.hid hs
                      clear hs HS
                      go_wp2_with fail
                      go_quiet ((go_at_call 32; exact Calls.quiet_of_same (HE2.out j2 false _ (Hf.out.drewN _) HC.out)))
                      go_wp2_with fail
                      go_roundw
                      case rel =>
                        refine ⟨m + 1, by omega, by go_num, fun p hp => ?_, Hf.out.drewN _⟩
                        by_cases e : p = m
                        · subst e; exact ⟨HNE.out, by rw [HYD.out]; exact HSF2.out⟩
                        · exact Hrt.out p (by omega)
                      case measure => simp [intOf]; omega
                · obtain rfl : m = k := by omega
                  have HRT := Lib.hid (row_true (G := G) HXD.out hj HSF.out Hrt.out)
                  go_wp2_with fail
                  go_roundw
                  case rel =>
                    refine ⟨m + 1, by omega, by go_num, fun p hp => ?_, Hf.out⟩
                    by_cases e : p = m
                    · subst e; exact HRT.out
                    · exact Hst.out p (by omega)
                  case measure => simp [intOf]; omega
      · obtain rfl : k = ord.length := by omega
        have HR := Lib.hid (isR_true HL.out Hst.out)
        go_wp2_with fail
        go_ret
        exact ⟨by rw [HR.out]; rfl, Hf.out⟩
end Go.Proofs.Ytegejcmihojhbaa
