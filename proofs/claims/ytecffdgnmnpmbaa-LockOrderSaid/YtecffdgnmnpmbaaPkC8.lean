/-
  Walks of slices.IndexFunc and slices.DeleteFunc of holds, by whose they are.
  No condition but sizes.
-/
import Derived.Test.YtecffdgnmnpmbaaPkC7
import Derived.Test.YtecffdgnmnpmbaaPkC1
import Derived.Laws.AppendOwn
import Derived.Laws.EntriesVeiled
namespace Go.Proofs.Ytecffdgnmnpmbaa
open Go Go.RowKit Go.Maps

theorem wclos_any (p : Int × Int) (wb : Nat) (who : Int) (W : World) (q : W.cell? ⟨wb, 0, none⟩ = some (.int .i64 who)) :
    Calls Try.prog 66 #[.agg #[.int .i64 p.1, .int .u8 p.2], .pointer (some ⟨wb, 0, none⟩)] W fun e W' => e = .returned (.bool (p.1 == who)) ∧ Fr W W' Nil := by
  obtain ⟨p1, p2⟩ := p
  have hf := (Fr.refl W Nil).alloc (.cells #[.int .i64 p1, .int .u8 p2] 33)
  have q1 := hf.cell q (fun h => h)
  have q2 := (Bk.new W 33 #[.int .i64 p1, .int .u8 p2]).cell 0
  have HF := Lib.hid hf
  clear hf q
  go_enter Try.func66, Try.ntmps66
  go_wp2_with fail
  go_ret
  exact ⟨rfl, HF.out⟩
theorem iclos_any (p : Int × Int) (wb : Nat) (who : Int) (W : World) (q : W.cell? ⟨wb, 0, none⟩ = some (.int .i64 who)) :
    Calls Try.prog 46 #[.agg #[.int .i64 p.1, .int .u8 p.2], .pointer (some ⟨wb, 0, none⟩)] W fun e W' => e = .returned (.bool (p.1 == who)) ∧ Fr W W' Nil := by
  obtain ⟨p1, p2⟩ := p
  have hf := (Fr.refl W Nil).alloc (.cells #[.int .i64 p1, .int .u8 p2] 33)
  have q1 := hf.cell q (fun h => h)
  have q2 := (Bk.new W 33 #[.int .i64 p1, .int .u8 p2]).cell 0
  have HF := Lib.hid hf
  clear hf q
  go_enter Try.func46, Try.ntmps46
  go_wp2_with fail
  go_ret
  exact ⟨rfl, HF.out⟩
/-- Where one's stands first; -1: nowhere. -/
def IdxIs (l : List (Int × Int)) (who r : Int) : Prop :=
  (r = -1 ∧ ∀ p ∈ l, p.1 ≠ who) ∨ ∃ i : Nat, r = (i : Int) ∧ i < l.length ∧ (∀ p ∈ l.take i, p.1 ≠ who) ∧ ∃ m, l[i]? = some (who, m)
/-- A function value that tells whose a hold is, wherever what lies below N, but S, lies as it lay. -/
def Tells (g : Nat) (wb : Nat) (who : Int) (w : World) (S : Nat → Prop) : Prop :=
  ∀ (p : Int × Int) (W : World), Fr w W S → Calls Try.prog g #[.agg #[.int .i64 p.1, .int .u8 p.2], .pointer (some ⟨wb, 0, none⟩)] W fun e W' => e = .returned (.bool (p.1 == who)) ∧ Fr W W' Nil
theorem tells_without {wb : Nat} {who : Int} {w : World} {S : Nat → Prop} (q : w.cell? ⟨wb, 0, none⟩ = some (.int .i64 who)) (hS : ¬ S wb) : Tells 66 wb who w S :=
  fun p W hf => wclos_any p wb who W (hf.cell q hS)
theorem tells_waits {wb : Nat} {who : Int} {w : World} {S : Nat → Prop} (q : w.cell? ⟨wb, 0, none⟩ = some (.int .i64 who)) (hS : ¬ S wb) : Tells 46 wb who w S :=
  fun p W hf => iclos_any p wb who W (hf.cell q hS)
set_option maxRecDepth 100000 in
set_option maxHeartbeats 1000000 in
theorem idx_any {g wb : Nat} {who : Int} {w : World} {v : Value} {l : List (Int × Int)} (hT : Tells g wb who w Nil) (hv : SlAt w 2 v l.length (l.flatMap hold2)) (hl : l.length ≤ 1000000)
    (hg : ∀ args w, (callFunc g args).run Try.prog w = .ok (.enter g args) w) :
    Calls Try.prog 45 #[v, .func (.func g) #[] #[.pointer (some ⟨wb, 0, none⟩)]] w fun e w' => ∃ r, e = .returned (.int .i64 r) ∧ IdxIs l who r ∧ Fr w w' Nil := by
  obtain ⟨a, cap, rfl⟩ := hv.shape
  have HT := Lib.hid hT
  have HV := Lib.hid hv
  clear hT hv
  go_enter Try.func45, Try.ntmps45
  go_wp2_with fail
  go_loopw [8] (fun vi wr => ∃ k : Nat, k ≤ l.length ∧ vi = .int .i64 (k : Int) ∧ Hid (∀ p ∈ l.take k, p.1 ≠ who) ∧ Hid (Fr w wr Nil)) (fun vi _ => l.length - (intOf vi).toNat)
  case atStart => exact ⟨0, by omega, rfl, (fun p hp => by simp at hp), Fr.refl _ _⟩
  case round =>
    obtain ⟨k, hk, rfl, HN, HF⟩ := hrel
    obtain ⟨wo, rfl⟩ : ∃ wo : World, wo = wr := ⟨_, rfl⟩
    by_cases hlt : k < l.length
    · have hkl : (k : Int) < (l.length : Int) := by omega
      obtain ⟨b, off, cap', hv, hc⟩ := flat_form (n := 2) (f := hold2) (fun _ => rfl) (by decide) (HV.out.fr0 HF.out) (by omega)
      cases hv
      have hgt := List.getElem?_eq_getElem hlt
      have HTK : Hid (l.take (k + 1) = l.take k ++ [l[k]]) := List.take_succ_eq_append_getElem hlt
      generalize l[k] = p at hgt HTK
      have HGT := Lib.hid hgt
      have p0 := hc k p hgt 0 _ rfl
      have p1 := hc k p hgt 1 _ rfl
      simp only [Nat.add_zero] at p0 p1
      clear hc hgt
      have cT := HT.out p
      obtain ⟨p1', p2'⟩ := p
      go_wp2_with fail
      refine (cT wo HF.out).mono ?_
      rintro e w1 ⟨rfl, hf1⟩
      have HF1 := Lib.hid (HF.out.trans0 hf1)
      clear hf1 cT
      cases hb : (p1' == who) with
      | true =>
        have HB := Lib.hid (eq_of_beq hb)
        clear hb
        go_wp2_with fail
        go_ret
        exact ⟨_, rfl, .inr ⟨k, rfl, hlt, HN.out, p2', by rw [HGT.out, ← HB.out]⟩, HF1.out⟩
      | false =>
        have HB : Hid (p1' ≠ who) := fun e => by rw [e] at hb; simp at hb
        clear hb
        go_wp2_with fail
        go_roundw
        case rel => exact ⟨k + 1, by omega, by go_num, (by rw [HTK.out]; intro q hq; rcases List.mem_append.1 hq with hq | hq; exact HN.out q hq; simp at hq; subst hq; exact HB.out), HF1⟩
        case measure => simp [intOf]; omega
    · obtain rfl : k = l.length := by omega
      go_wp2_with fail
      go_ret
      exact ⟨_, rfl, .inl ⟨rfl, by have := HN.out; rwa [List.take_length] at this⟩, HF.out⟩
end Go.Proofs.Ytecffdgnmnpmbaa
