/-
  Walk of the document's Join of two.
  Of modes that are.
  Walk of the document's Beside.
  Of modes that are.
-/
import Derived.Test.YtokeciekncincabGreatPkC7
import Derived.Test.YtokeciekncincabGreatPkC16
import Derived.Test.YtokeciekncincabGreatPkC1
namespace Go.Proofs.YtokeciekncincabGreat
open Go Go.RowKit Go.Maps

theorem join_least {a b k : Int} (ha : ModeOk a) (hb : ModeOk b) (hk : 0 ≤ k) (hk5 : k ≤ 5) (h : ∀ m : Int, 0 ≤ m → m < k → (covM m a && covM m b) = false) (h2 : k < 5 → (covM k a && covM k b) = true) : joinM a b = k := by
  have h0 := h 0 (by decide)
  have h1 := h 1 (by decide)
  have h3 := h 2 (by decide)
  have h4 := h 3 (by decide)
  have h5 := h 4 (by decide)
  have hK : k = 0 ∨ k = 1 ∨ k = 2 ∨ k = 3 ∨ k = 4 ∨ k = 5 := by omega
  clear h
  revert h0 h1 h2 h3 h4 h5
  rcases mode_cases ha with rfl | rfl | rfl | rfl | rfl | rfl <;> rcases mode_cases hb with rfl | rfl | rfl | rfl | rfl | rfl <;> rcases hK with rfl | rfl | rfl | rfl | rfl | rfl <;> decide
set_option maxHeartbeats 4000000 in
theorem rjoin_any {a b : Int} (ha : ModeOk a) (hb : ModeOk b) (j : Nat) (w : World) (q0 : w.cell? ⟨j, 0, none⟩ = some (.int .u8 a)) (q1 : w.cell? ⟨j, 1, none⟩ = some (.int .u8 b)) :
    Calls Tryz.prog 59 #[.slice (some ⟨j, 0, none⟩) 2 2] w fun e w' => e = .returned (.int .u8 (joinM a b)) ∧ Fr w w' Nil := by
  have HA := Lib.hid ha
  have HB := Lib.hid hb
  obtain ⟨w1, hw1⟩ : ∃ w1, w.alloc (.cells #[.int .u8 0, .int .u8 1, .int .u8 2, .int .u8 3, .int .u8 4] 31) = w1 := ⟨_, rfl⟩
  have hf1 : Fr w w1 Nil := by rw [← hw1]; exact (Fr.refl w Nil).alloc _
  have hbk : Bk w1 w.heap.size 31 [.int .u8 0, .int .u8 1, .int .u8 2, .int .u8 3, .int .u8 4] := by rw [← hw1]; exact Bk.new w _ _
  replace q0 := hf1.cell q0 (fun h => h)
  replace q1 := hf1.cell q1 (fun h => h)
  have HQ : Hid (∀ k : Nat, k < 5 → w1.cell? ⟨w.heap.size, k, none⟩ = some (.int .u8 (k : Int))) := fun k hk => by
    have hK : k = 0 ∨ k = 1 ∨ k = 2 ∨ k = 3 ∨ k = 4 := by omega
    rcases hK with rfl | rfl | rfl | rfl | rfl <;> exact hbk.cell _
  have HF := Lib.hid hf1
  clear ha hb hbk hf1
  go_enter Tryz.func59, Tryz.ntmps59
  go_wp2_with fail
  go_loopw [9] (fun vk wr => wr = w1 ∧ ∃ k : Nat, vk = .int .i64 (k : Int) ∧ k ≤ 5 ∧ Hid (∀ m : Int, 0 ≤ m → m < k → (covM m a && covM m b) = false)) (fun vk _ => 5 - (intOf vk).toNat)
  case atStart => exact ⟨by first | rfl | trivial, 0, by go_num, by omega, fun m h1 h2 => by omega⟩
  case round =>
    obtain ⟨rfl, k, rfl, hk5, HK⟩ := hrel
    by_cases hk : k < 5
    · have hki : (k : Int) < 5 := by omega
      have qk := HQ.out k hk
      have HM : Hid (ModeOk (k : Int)) := ⟨by omega, by omega⟩
      obtain ⟨K, hK⟩ : ∃ K : Int, (k : Int) = K := ⟨_, rfl⟩
      have qk2 : wr.cell? ⟨w.heap.size, k, none⟩ = some (.int .u8 K) := by rw [← hK]; exact qk
      have HM2 : Hid (ModeOk K) := by rw [← hK]; exact HM
      have HKK := Lib.hid hK
      clear qk hK HM
      have cA := covs_any HM2.out HA.out
      have cB := covs_any HM2.out HB.out
      unfold CovsAt at cA cB
      go_wp2_with fail
      go_loopw [5, 6] (fun vb vi wx => wx = wr ∧ ((vi = .int .i64 0 ∧ vb = .bool true) ∨ (vi = .int .i64 1 ∧ vb = .bool (covM K a)) ∨ (vi = .int .i64 2 ∧ vb = .bool (covM K a && covM K b)))) (fun vb vi _ => 2 - (intOf vi).toNat)
      case atStart => exact ⟨by first | rfl | trivial, .inl ⟨rfl, rfl⟩⟩
      case round =>
        obtain ⟨rfl, hrel⟩ := hrel
        rcases hrel with ⟨rfl, rfl⟩ | ⟨rfl, rfl⟩ | ⟨rfl, rfl⟩
        · go_wp2_with fail
          refine (cA _).mono ?_
          rintro e w3 ⟨rfl, rfl⟩
          go_wp2_with fail
          go_roundw
          case rel => exact ⟨by first | rfl | trivial, .inr (.inl ⟨rfl, rfl⟩)⟩
          case measure => simp [intOf]
        · generalize hcA : covM K a = ca at *
          cases ca with
          | false =>
            go_wp2_with fail
            go_roundw
            case rel => exact ⟨by first | rfl | trivial, .inr (.inr ⟨rfl, rfl⟩)⟩
            case measure => simp [intOf]
          | true =>
            go_wp2_with fail
            refine (cB _).mono ?_
            rintro e w3 ⟨rfl, rfl⟩
            go_wp2_with fail
            go_roundw
            case rel => exact ⟨by first | rfl | trivial, .inr (.inr ⟨rfl, by rw [Bool.true_and]⟩)⟩
            case measure => simp [intOf]
        · generalize hcc : (covM K a && covM K b) = cc
          cases cc with
          | true =>
            have HC := Lib.hid hcc
            clear hcc
            go_wp2_with fail
            go_ret
            refine ⟨?_, HF.out⟩
            rw [join_least (k := K) HA.out HB.out HM2.out.1 HM2.out.2 (by rw [← HKK.out]; exact HK.out) fun _ => HC.out]
            rfl
          | false =>
            have HC := Lib.hid hcc
            clear hcc
            go_wp2_with fail
            go_roundw
            case rel =>
              refine ⟨by first | rfl | trivial, k + 1, by go_num, by omega, fun m h1 h2 => ?_⟩
              by_cases e : m = (k : Int)
              · rw [e, HKK.out]; exact HC.out
              · exact HK.out m h1 (by omega)
            case measure => simp [intOf]; omega
    · obtain rfl : k = 5 := by omega
      go_wp2_with fail
      go_ret
      refine ⟨?_, HF.out⟩
      rw [join_least (k := 5) HA.out HB.out (by decide) (by decide) HK.out fun h => absurd h (by decide)]
      rfl
end Go.Proofs.YtokeciekncincabGreat
namespace Go.Proofs.YtokeciekncincabGreat
open Go Go.RowKit Go.Maps

theorem wpAnyS_weak {P : Program} {md : Region.Mode} {ops : Array Oper} {Q : Exit → Act → World → Prop} {S S' : World → Prop} {n : Nat} (hs : ∀ w, S' w → S w) : ∀ (fuel : Nat) (listed : Array Bool) (a : Act) (w : World), wpAnyS P md ops Q S' n fuel listed a w → wpAnyS P md ops Q S n fuel listed a w
  | 0, _, _, _, h => h
  | fuel + 1, _, _, _, h => ⟨h.1, fun i hi => wpOp_mono (fun a' w' h' => ⟨h'.1, fun hin => ⟨hs _ (h'.2 hin).1, wpAnyS_weak hs fuel _ a' w' (h'.2 hin).2⟩⟩) (h.2 i hi)⟩
def tabS (n : Nat) : ByteArray := if n = 0 then ⟨#[121, 121, 121, 121, 121, 121]⟩ else if n = 1 then ⟨#[121, 121, 121, 121, 121, 110]⟩ else if n = 2 then ⟨#[121, 121, 121, 110, 110, 110]⟩ else if n = 3 then ⟨#[121, 121, 110, 121, 110, 110]⟩ else if n = 4 then ⟨#[121, 121, 110, 110, 110, 110]⟩ else ⟨#[121, 110, 110, 110, 110, 110]⟩
def tabV : List Value := [.string (tabS 0), .string (tabS 1), .string (tabS 2), .string (tabS 3), .string (tabS 4), .string (tabS 5)]
def tabC (n m : Nat) : Int := ((tabS n).data[m]?.getD 0).toNat
theorem mode_nat {a : Int} (h : ModeOk a) : ∃ n : Nat, a = (n : Int) ∧ (n = 0 ∨ n = 1 ∨ n = 2 ∨ n = 3 ∨ n = 4 ∨ n = 5) := ⟨a.toNat, by have := h.1; omega, by have := h.1; have := h.2; omega⟩
theorem tab_bes {n m : Nat} (hn : n = 0 ∨ n = 1 ∨ n = 2 ∨ n = 3 ∨ n = 4 ∨ n = 5) (hm : m = 0 ∨ m = 1 ∨ m = 2 ∨ m = 3 ∨ m = 4 ∨ m = 5) : (tabC n m == 121) = besM (n : Int) (m : Int) := by
  rcases hn with rfl | rfl | rfl | rfl | rfl | rfl <;> rcases hm with rfl | rfl | rfl | rfl | rfl | rfl <;> kernel_rfl
theorem tab_idx {n m : Nat} (hn : n = 0 ∨ n = 1 ∨ n = 2 ∨ n = 3 ∨ n = 4 ∨ n = 5) (hm : m = 0 ∨ m = 1 ∨ m = 2 ∨ m = 3 ∨ m = 4 ∨ m = 5) (w : World) : (Instr.index 9 (.string (tabS n)) (.int .u8 (m : Int))).run Tryz.prog w = .ok (.int .u8 (tabC n m)) w := by
  rcases hn with rfl | rfl | rfl | rfl | rfl | rfl <;> rcases hm with rfl | rfl | rfl | rfl | rfl | rfl <;> kernel_rfl
set_option maxRecDepth 100000 in
set_option maxHeartbeats 4000000 in
theorem rbes_any {a b : Int} (ha : ModeOk a) (hb : ModeOk b) (w : World) : Calls Tryz.prog 70 #[.int .u8 a, .int .u8 b] w fun e w' => e = .returned (.bool (besM a b)) ∧ Fr w w' Nil := by
  obtain ⟨wa, hwa⟩ : ∃ x, (w.alloc (.cells #[.string ⟨#[121, 121, 121, 121, 121, 121]⟩, .string ⟨#[121, 121, 121, 121, 121, 110]⟩, .string ⟨#[121, 121, 121, 110, 110, 110]⟩, .string ⟨#[121, 121, 110, 121, 110, 110]⟩, .string ⟨#[121, 121, 110, 110, 110, 110]⟩, .string ⟨#[121, 110, 110, 110, 110, 110]⟩] 9)).drew = x := ⟨_, rfl⟩
  have hfa : Fr w wa Nil := by rw [← hwa]; exact ((Fr.refl w Nil).alloc _).drew
  have hba : Bk wa w.heap.size 9 tabV := by rw [← hwa]; exact (Bk.new w 9 #[.string ⟨#[121, 121, 121, 121, 121, 121]⟩, .string ⟨#[121, 121, 121, 121, 121, 110]⟩, .string ⟨#[121, 121, 121, 110, 110, 110]⟩, .string ⟨#[121, 121, 110, 121, 110, 110]⟩, .string ⟨#[121, 121, 110, 110, 110, 110]⟩, .string ⟨#[121, 110, 110, 110, 110, 110]⟩]).fr (Fr.refl _ Nil).drew (fun h => h)
  have cA := of_any ha
  have cB := of_any hb
  obtain ⟨n, rfl, hn⟩ := mode_nat ha
  obtain ⟨m, rfl, hm⟩ := mode_nat hb
  have k1 : ∀ w', KeptN wa w' → w'.cell? ⟨w.heap.size, n, none⟩ = some (.string (tabS n)) := KeptN.cell (by rw [hba.cell]; rcases hn with rfl | rfl | rfl | rfl | rfl | rfl <;> rfl)
  have k2 : ∀ w', KeptN wa w' → (Instr.index 9 (.string (tabS n)) (.int .u8 (m : Int))).run Tryz.prog w' = .ok (.int .u8 (tabC n m)) w' := fun w' _ => tab_idx hn hm w'
  have HR := Lib.hid (tab_bes hn hm)
  have HF := Lib.hid hfa
  have hn6 : (n : Int) < 6 := by omega
  have hn0 : (0 : Int) ≤ (n : Int) := by omega
  clear ha hb hn hm hba hfa
  go_enter Tryz.func70, Tryz.ntmps70
  go_wp2_with fail
  refine wp_region_sink 9 (fun _ => True) (by kernel_rfl) ?_
  have hS0 : True := trivial
  refine tk 1 hS0 ?_
  refine tk 5 hS0 ?_
  try simp only [Act.put, sA, sB, sC]
  refine wpAnyS_two (i := 0) (j := 2) rfl rfl (by kernel_rfl) (by decide) (by decide) (by rfl) (by rfl) (fun K hK => ?_) (fun K hK => ?_)
  · go_simp
    try rw [hwa]
    refine hK.out _ _ trivial ?_
    clear hK K
    try simp only [Act.put, sA, sB, sC]
    refine on1 2 fun K hK => ?_
    go_simp
    refine (cA _).mono ?_
    rintro e wj ⟨rfl, hwj⟩
    rw [hwj]
    refine hK.out _ _ trivial ?_
    clear hK K
    try simp only [Act.put, sA, sB, sC]
    refine wpAnyS_weak (S' := KeptN wa) (fun _ _ => trivial) _ _ _ _ ?_
    have hSa : KeptN wa wa := Fr.refl wa Nil
    refine tk 3 hSa ?_
    try simp only [Act.put, sA, sB, sC]
    refine tk 4 hSa ?_ (hy := by intro _ w; have ck1 := k1 _ w; go_simp <;> with_reducible rfl)
    try simp only [Act.put, sA, sB, sC]
    refine on1 6 fun K hK => ?_
    go_simp
    refine (cB _).mono ?_
    rintro e wj ⟨rfl, hwj⟩
    rw [hwj]
    refine hK.out _ _ (Fr.refl wa Nil) ?_
    clear hK K
    try simp only [Act.put, sA, sB, sC]
    refine tk 7 hSa ?_ (hy := by intro _ w; have ck2 := k2 _ w; go_simp <;> with_reducible rfl)
    try simp only [Act.put, sA, sB, sC]
    refine tk 8 hSa ?_
    try simp only [Act.put, sA, sB, sC]
    refine wpAnyS_last (i := 9) rfl (by kernel_rfl) (by decide) (by kernel_rfl) (by rfl) fun K hK => ?_
    go_simp
    refine hK.out _ _ ?_
    clear hK K
    go_wp2_with fail
    go_ret
    rw [HR.out]
    exact ⟨rfl, HF.out⟩
  · go_simp
    refine (cA _).mono ?_
    rintro e wj ⟨rfl, hwj⟩
    rw [hwj]
    refine hK.out _ _ trivial ?_
    clear hK K
    try simp only [Act.put, sA, sB, sC]
    refine wpAnyS_two (i := 0) (j := 6) rfl rfl (by kernel_rfl) (by decide) (by decide) (by rfl) (by rfl) (fun K hK => ?_) (fun K hK => ?_)
    · go_simp
      try rw [hwa]
      refine hK.out _ _ trivial ?_
      clear hK K
      try simp only [Act.put, sA, sB, sC]
      refine wpAnyS_weak (S' := KeptN wa) (fun _ _ => trivial) _ _ _ _ ?_
      have hSa : KeptN wa wa := Fr.refl wa Nil
      refine tk 3 hSa ?_
      try simp only [Act.put, sA, sB, sC]
      refine tk 4 hSa ?_ (hy := by intro _ w; have ck1 := k1 _ w; go_simp <;> with_reducible rfl)
      try simp only [Act.put, sA, sB, sC]
      refine on1 6 fun K hK => ?_
      go_simp
      refine (cB _).mono ?_
      rintro e wj ⟨rfl, hwj⟩
      rw [hwj]
      refine hK.out _ _ (Fr.refl wa Nil) ?_
      clear hK K
      try simp only [Act.put, sA, sB, sC]
      refine tk 7 hSa ?_ (hy := by intro _ w; have ck2 := k2 _ w; go_simp <;> with_reducible rfl)
      try simp only [Act.put, sA, sB, sC]
      refine tk 8 hSa ?_
      try simp only [Act.put, sA, sB, sC]
      refine wpAnyS_last (i := 9) rfl (by kernel_rfl) (by decide) (by kernel_rfl) (by rfl) fun K hK => ?_
      go_simp
      refine hK.out _ _ ?_
      clear hK K
      go_wp2_with fail
      go_ret
      rw [HR.out]
      exact ⟨rfl, HF.out⟩
    · go_simp
      refine (cB _).mono ?_
      rintro e wj ⟨rfl, hwj⟩
      rw [hwj]
      refine hK.out _ _ trivial ?_
      clear hK K
      try simp only [Act.put, sA, sB, sC]
      refine on1 0 fun K hK => ?_
      go_simp
      try rw [hwa]
      refine hK.out _ _ trivial ?_
      clear hK K
      try simp only [Act.put, sA, sB, sC]
      refine wpAnyS_weak (S' := KeptN wa) (fun _ _ => trivial) _ _ _ _ ?_
      have hSa : KeptN wa wa := Fr.refl wa Nil
      refine tk 3 hSa ?_
      try simp only [Act.put, sA, sB, sC]
      refine tk 4 hSa ?_ (hy := by intro _ w; have ck1 := k1 _ w; go_simp <;> with_reducible rfl)
      try simp only [Act.put, sA, sB, sC]
      refine tk 7 hSa ?_ (hy := by intro _ w; have ck2 := k2 _ w; go_simp <;> with_reducible rfl)
      try simp only [Act.put, sA, sB, sC]
      refine tk 8 hSa ?_
      try simp only [Act.put, sA, sB, sC]
      refine wpAnyS_last (i := 9) rfl (by kernel_rfl) (by decide) (by kernel_rfl) (by rfl) fun K hK => ?_
      go_simp
      refine hK.out _ _ ?_
      clear hK K
      go_wp2_with fail
      go_ret
      rw [HR.out]
      exact ⟨rfl, HF.out⟩
end Go.Proofs.YtokeciekncincabGreat
