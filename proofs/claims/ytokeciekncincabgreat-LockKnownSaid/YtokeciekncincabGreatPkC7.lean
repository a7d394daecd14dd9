/-
  Walks of package mode: Known, Covers, Join, Beside.
  Of modes that are known.
  Walks of package mode: Join of two; may a spot be asked for so; the order of spots.
  Of modes that are known.
  Walks of the document's modes: Of, step, Covers, Join.
  Of modes that are.
  Walks of the document's Covers and Join.
  Of modes that are.
-/
import Derived.Test.YtokeciekncincabGreatPkC5
import Derived.Test.YtokeciekncincabGreatPkC6
import Derived.Test.YtokeciekncincabGreatPkC1
namespace Go.Proofs.YtokeciekncincabGreat
open Go Go.RowKit Go.Maps

/-- What a mode allows, as a number. -/
def alN (m : Int) : Int := if m = 5 then 15 else if m = 4 then 7 else if m = 3 then 5 else if m = 2 then 3 else if m = 1 then 1 else 0
set_option maxHeartbeats 4000000 in
theorem allows_any {m : Int} (h : ModeOk m) (w : World) : Calls Tryz.prog 72 #[.int .u8 m] w fun e w' => e = .returned (.int .u8 (alN m)) ∧ w' = w := by
  rcases mode_cases h with rfl | rfl | rfl | rfl | rfl | rfl
  all_goals
    clear h
    go_enter Tryz.func72, Tryz.ntmps72
    go_wp2_with fail
    go_ret
    exact ⟨rfl, rfl⟩
theorem known_any (m : Int) (w : World) : Calls Tryz.prog 71 #[.int .u8 m] w fun e w' => e = .returned (.bool (decide (m ≤ 5))) ∧ w' = w := by
  go_enter Tryz.func71, Tryz.ntmps71
  go_wp2_with fail
  go_ret
  exact ⟨rfl, rfl⟩
theorem cov_bits {a b : Int} (ha : ModeOk a) (hb : ModeOk b) : (bits BinOp.andNot IntKind.u8 (alN b) (alN a) == 0) = covM a b := by
  rcases mode_cases ha with rfl | rfl | rfl | rfl | rfl | rfl <;> rcases mode_cases hb with rfl | rfl | rfl | rfl | rfl | rfl <;> kernel_rfl
set_option maxHeartbeats 4000000 in
theorem covers_any {a b : Int} (ha : ModeOk a) (hb : ModeOk b) (w : World) : Calls Tryz.prog 42 #[.int .u8 a, .int .u8 b] w fun e w' => e = .returned (.bool (covM a b)) ∧ w' = w := by
  have cA := allows_any ha
  have cB := allows_any hb
  have HC := Lib.hid (cov_bits ha hb)
  go_enter Tryz.func42, Tryz.ntmps42
  go_wp2_with fail
  refine (cB w).mono ?_
  rintro e w1 ⟨rfl, rfl⟩
  go_wp2_with fail
  refine (cA w1).mono ?_
  rintro e w2 ⟨rfl, rfl⟩
  clear cA cB ha hb
  go_wp2_with fail
  go_ret
  rw [← HC.out]
  exact ⟨rfl, rfl⟩
/-- Who writes somewhere bars who reads all; who writes all bars everybody. -/
def barsN (x y : Int) : Bool := decide (bits BinOp.and IntKind.u8 x 8 > 0) || (decide (bits BinOp.and IntKind.u8 x 2 > 0) && decide (bits BinOp.and IntKind.u8 y 4 > 0))
theorem al_cases {a : Int} (ha : ModeOk a) : alN a = 0 ∨ alN a = 1 ∨ alN a = 3 ∨ alN a = 5 ∨ alN a = 7 ∨ alN a = 15 := by
  rcases mode_cases ha with rfl | rfl | rfl | rfl | rfl | rfl <;> decide
set_option maxHeartbeats 4000000 in
theorem bars_any {a b : Int} (ha : ModeOk a) (hb : ModeOk b) (w : World) : Calls Tryz.prog 85 #[.int .u8 (alN a), .int .u8 (alN b)] w fun e w' => e = .returned (.bool (barsN (alN a) (alN b))) ∧ w' = w := by
  have h1 := al_cases ha
  have h2 := al_cases hb
  generalize alN a = x at *
  generalize alN b = y at *
  clear ha hb
  rcases h1 with rfl | rfl | rfl | rfl | rfl | rfl <;> rcases h2 with rfl | rfl | rfl | rfl | rfl | rfl
  all_goals
    go_enter Tryz.func85, Tryz.ntmps85
    go_wp2_with fail
    go_ret
    exact ⟨by kernel_rfl, rfl⟩
theorem bes_bits {a b : Int} (ha : ModeOk a) (hb : ModeOk b) : ((alN a == 0) || (alN b == 0) || (!barsN (alN a) (alN b) && !barsN (alN b) (alN a))) = besM a b := by
  rcases mode_cases ha with rfl | rfl | rfl | rfl | rfl | rfl <;> rcases mode_cases hb with rfl | rfl | rfl | rfl | rfl | rfl <;> kernel_rfl
set_option maxHeartbeats 4000000 in
theorem bes_any {a b : Int} (ha : ModeOk a) (hb : ModeOk b) (w : World) : Calls Tryz.prog 55 #[.int .u8 a, .int .u8 b] w fun e w' => e = .returned (.bool (besM a b)) ∧ w' = w := by
  have cA := allows_any ha
  have cB := allows_any hb
  have cX := bars_any ha hb
  have cY := bars_any hb ha
  have HC := Lib.hid (bes_bits ha hb)
  go_enter Tryz.func55, Tryz.ntmps55
  go_wp2_with fail
  refine (cA w).mono ?_
  rintro e w1 ⟨rfl, rfl⟩
  go_wp2_with fail
  refine (cB w1).mono ?_
  rintro e w2 ⟨rfl, rfl⟩
  obtain ⟨x, hx⟩ : ∃ x, alN a = x := ⟨_, rfl⟩
  obtain ⟨y, hy⟩ : ∃ x, alN b = x := ⟨_, rfl⟩
  rw [hx, hy] at HC cX cY ⊢
  clear cA cB ha hb hx hy
  generalize hxy : barsN x y = bx at *
  generalize hyx : barsN y x = byx at *
  clear hxy hyx
  by_cases h1 : x = 0
  · subst h1
    go_wp2_with fail
    go_ret
    rw [← HC.out]
    exact ⟨rfl, rfl⟩
  · have h1' : (x == 0) = false := by simpa using h1
    by_cases h2 : y = 0
    · subst h2
      go_wp2_with fail
      go_ret
      rw [← HC.out, h1']
      exact ⟨rfl, rfl⟩
    · have h2' : (y == 0) = false := by simpa using h2
      go_wp2_with fail
      refine (cX w2).mono ?_
      rintro e w1 ⟨rfl, rfl⟩
      cases bx
      · go_wp2_with fail
        refine (cY w1).mono ?_
        rintro e w3 ⟨rfl, rfl⟩
        go_wp2_with fail
        go_ret
        rw [← HC.out, h1', h2']
        exact ⟨by cases byx <;> rfl, rfl⟩
      · go_wp2_with fail
        go_ret
        rw [← HC.out, h1', h2']
        exact ⟨rfl, rfl⟩
end Go.Proofs.YtokeciekncincabGreat
namespace Go.Proofs.YtokeciekncincabGreat
open Go Go.RowKit Go.Maps

def leastN (x : Int) : Int := if x = 15 then 5 else if x = 7 then 4 else if x = 5 then 3 else if x = 3 then 2 else if x = 1 then 1 else 0
theorem or_bits {a b : Int} (ha : ModeOk a) (hb : ModeOk b) : ∃ x, bits BinOp.or IntKind.u8 (bits BinOp.or IntKind.u8 0 (alN a)) (alN b) = x ∧ (x = 0 ∨ x = 1 ∨ x = 3 ∨ x = 5 ∨ x = 7 ∨ x = 15) ∧ leastN x = joinM a b := by
  rcases mode_cases ha with rfl | rfl | rfl | rfl | rfl | rfl <;> rcases mode_cases hb with rfl | rfl | rfl | rfl | rfl | rfl <;> exact ⟨_, rfl, by decide, by decide⟩
set_option maxHeartbeats 4000000 in
theorem least_any {x : Int} (hx : x = 0 ∨ x = 1 ∨ x = 3 ∨ x = 5 ∨ x = 7 ∨ x = 15) (w : World) : Calls Tryz.prog 73 #[.int .u8 x] w fun e w' => e = .returned (.int .u8 (leastN x)) ∧ w' = w := by
  rcases hx with rfl | rfl | rfl | rfl | rfl | rfl
  all_goals
    go_enter Tryz.func73, Tryz.ntmps73
    go_wp2_with fail
    go_ret
    exact ⟨rfl, rfl⟩
set_option maxHeartbeats 4000000 in
theorem join_any {a b : Int} (ha : ModeOk a) (hb : ModeOk b) (j : Nat) (w : World) (q0 : w.cell? ⟨j, 0, none⟩ = some (.int .u8 a)) (q1 : w.cell? ⟨j, 1, none⟩ = some (.int .u8 b)) :
    Calls Tryz.prog 43 #[.slice (some ⟨j, 0, none⟩) 2 2] w fun e w' => e = .returned (.int .u8 (joinM a b)) ∧ w' = w := by
  have cA := allows_any ha
  have cB := allows_any hb
  obtain ⟨x, hx, hx2, hx3⟩ := or_bits ha hb
  have cL := least_any hx2
  rw [hx3] at cL
  have HX := Lib.hid hx
  clear hx hx2 hx3 ha hb
  go_enter Tryz.func43, Tryz.ntmps43
  go_wp2_with fail
  go_loopw [3, 8] (fun vb vi wr => wr = w ∧ ((vi = .int .i64 0 ∧ vb = .int .u8 0) ∨ (vi = .int .i64 1 ∧ vb = .int .u8 (bits BinOp.or IntKind.u8 0 (alN a))) ∨ (vi = .int .i64 2 ∧ vb = .int .u8 x))) (fun vb vi _ => 2 - (intOf vi).toNat)
  case atStart => exact ⟨rfl, .inl ⟨rfl, rfl⟩⟩
  case round =>
    obtain ⟨rfl, hrel⟩ := hrel
    rcases hrel with ⟨rfl, rfl⟩ | ⟨rfl, rfl⟩ | ⟨rfl, rfl⟩
    · go_wp2_with fail
      refine (cA _).mono ?_
      rintro e w1 ⟨rfl, rfl⟩
      go_wp2_with fail
      go_roundw
      case rel => exact ⟨by first | rfl | trivial, .inr (.inl ⟨rfl, rfl⟩)⟩
      case measure => simp [intOf]
    · go_wp2_with fail
      refine (cB _).mono ?_
      rintro e w1 ⟨rfl, rfl⟩
      go_wp2_with fail
      go_roundw
      case rel => exact ⟨by first | rfl | trivial, .inr (.inr ⟨rfl, by rw [← HX.out]⟩)⟩
      case measure => simp [intOf]
    · go_wp2_with fail
      refine (cL _).mono ?_
      rintro e w1 ⟨rfl, rfl⟩
      go_wp2_with fail
      go_ret
      exact ⟨rfl, rfl⟩
/-! ### may a spot be asked for so -/
set_option maxHeartbeats 4000000 in
theorem may_any {s : Spot} {m : Int} (hm : 0 ≤ m) (w : World) : Calls Tryz.prog 41 #[spV s, .int .u8 m] w fun e w' => e = .returned (.bool (mayL s m)) ∧ Fr w w' Nil := by
  obtain ⟨t, r, k⟩ := s
  obtain ⟨res, hres⟩ : ∃ x, mayL (t, r, k) m = x := ⟨_, rfl⟩
  rw [hres]
  unfold mayL at hres
  have h0 : decide (0 ≤ m) = true := decide_eq_true hm
  rw [h0] at hres
  have HR := Lib.hid hres
  clear hres h0 hm
  have hf := (Fr.refl w Nil).alloc (.cells #[.int .i64 t, .bool r, .int .i64 k] 30)
  have hb := Bk.new w 30 #[.int .i64 t, .bool r, .int .i64 k]
  have q0 := hb.cell 0
  have q1 := hb.cell 1
  have q2 := hb.cell 2
  have HF := Lib.hid hf
  clear hf hb
  go_enter Tryz.func41, Tryz.ntmps41
  go_wp2_with fail
  refine (known_any m _).mono ?_
  rintro e w1 ⟨rfl, rfl⟩
  cases h1 : decide (m ≤ 5)
  · have HR1 := Lib.hid h1
    clear h1
    go_wp2_with fail
    go_ret
    refine ⟨?_, HF.out⟩
    rw [← HR.out, HR1.out]; rfl
  have HR1 := Lib.hid h1
  clear h1
  cases h2 : (m != 0)
  · have HR2 := Lib.hid h2
    go_wp2_with fail
    go_ret
    refine ⟨?_, HF.out⟩
    rw [← HR.out, HR1.out, HR2.out]; rfl
  have HR2 := Lib.hid h2
  cases h3 : decide (0 ≤ t)
  · have HR3 := Lib.hid h3
    have h3' : ¬ (0 ≤ t) := of_decide_eq_false h3
    clear h3
    go_wp2_with fail
    go_ret
    refine ⟨?_, HF.out⟩
    rw [← HR.out, HR1.out, HR2.out, HR3.out]; rfl
  have HR3 := Lib.hid h3
  have h3' : 0 ≤ t := of_decide_eq_true h3
  clear h3
  cases r
  · go_wp2_with fail
    go_ret
    refine ⟨?_, HF.out⟩
    rw [← HR.out, HR1.out, HR2.out, HR3.out]; rfl
  · go_wp2_with fail
    go_ret
    refine ⟨?_, HF.out⟩
    rw [← HR.out, HR1.out, HR2.out, HR3.out]; rfl
end Go.Proofs.YtokeciekncincabGreat
namespace Go.Proofs.YtokeciekncincabGreat
open Go Go.RowKit Go.Maps

def stepM (a b : Int) : Bool := (a == 1 && b == 0) || (a == 2 && b == 1) || (a == 3 && b == 1) || (a == 4 && b == 2) || (a == 4 && b == 3) || (a == 5 && b == 4)
set_option maxHeartbeats 4000000 in
theorem of_any {m : Int} (h : ModeOk m) (w : World) : Calls Tryz.prog 87 #[.int .u8 m] w fun e w' => e = .returned (.int .u8 m) ∧ w' = w := by
  have cK : ∀ w, Calls Tryz.prog 66 #[.int .u8 m] w fun e w' => e = .returned (.bool true) ∧ w' = w := fun w => by
    have h5 : m ≤ 5 := h.2
    go_enter Tryz.func66, Tryz.ntmps66
    go_wp2_with fail
    go_ret
    exact ⟨rfl, rfl⟩
  clear h
  go_enter Tryz.func87, Tryz.ntmps87
  go_wp2_with fail
  refine (cK w).mono ?_
  rintro e w1 ⟨rfl, rfl⟩
  go_wp2_with fail
  go_ret
  exact ⟨rfl, rfl⟩
set_option maxHeartbeats 8000000 in
theorem step_any {a b : Int} (ha : ModeOk a) (hb : ModeOk b) (w : World) : Calls Tryz.prog 88 #[.int .u8 a, .int .u8 b] w fun e w' => e = .returned (.bool (stepM a b)) ∧ w' = w := by
  rcases mode_cases ha with rfl | rfl | rfl | rfl | rfl | rfl <;> rcases mode_cases hb with rfl | rfl | rfl | rfl | rfl | rfl
  all_goals
    clear ha hb
    go_enter Tryz.func88, Tryz.ntmps88
    go_wp2_with fail
    go_ret
    exact ⟨rfl, rfl⟩
end Go.Proofs.YtokeciekncincabGreat
namespace Go.Proofs.YtokeciekncincabGreat
open Go Go.RowKit Go.Maps

def CovsAt (a b : Int) : Prop := ∀ w, Calls Tryz.prog 58 #[.int .u8 a, .int .u8 b] w fun e w' => e = .returned (.bool (covM a b)) ∧ w' = w
theorem cov_below {a b m : Int} (ha : ModeOk a) (hb : ModeOk b) (hm : ModeOk m) (h : stepM a m = true) (h2 : covM m b = true) : covM a b = true := by
  revert h h2
  rcases mode_cases ha with rfl | rfl | rfl | rfl | rfl | rfl <;> rcases mode_cases hm with rfl | rfl | rfl | rfl | rfl | rfl <;> rcases mode_cases hb with rfl | rfl | rfl | rfl | rfl | rfl <;> decide
theorem cov_none {a b : Int} (ha : ModeOk a) (hb : ModeOk b) (hne : a ≠ b) (h : ∀ m : Int, 0 ≤ m → m < 6 → stepM a m = true → covM m b = false) : covM a b = false := by
  have h0 := h 0 (by decide) (by decide)
  have h1 := h 1 (by decide) (by decide)
  have h2 := h 2 (by decide) (by decide)
  have h3 := h 3 (by decide) (by decide)
  have h4 := h 4 (by decide) (by decide)
  have h5 := h 5 (by decide) (by decide)
  clear h
  revert h0 h1 h2 h3 h4 h5 hne
  rcases mode_cases ha with rfl | rfl | rfl | rfl | rfl | rfl <;> rcases mode_cases hb with rfl | rfl | rfl | rfl | rfl | rfl <;> decide
theorem wrap8 {x : Int} (h : 0 ≤ x) (h2 : x < 255) : IntKind.u8.wrap (x + 1) = x + 1 := by
  rw [IntKind.wrap_u8]; omega
set_option maxHeartbeats 4000000 in
theorem covs_one {a b : Int} (ha : ModeOk a) (hb : ModeOk b) (hrec : ∀ m, ModeOk m → stepM a m = true → CovsAt m b) : CovsAt a b := by
  intro w
  have cA := of_any ha
  have cB := of_any hb
  have HA := Lib.hid ha
  have HB := Lib.hid hb
  have HR := Lib.hid hrec
  clear ha hb hrec
  cases hab : (a == b) with
  | true =>
    have HE := Lib.hid (eq_of_beq hab)
    go_enter Tryz.func58, Tryz.ntmps58
    go_wp2_with fail
    refine (cA w).mono ?_
    rintro e w1 ⟨rfl, rfl⟩
    go_wp2_with fail
    refine (cB w1).mono ?_
    rintro e w2 ⟨rfl, rfl⟩
    go_wp2_with fail
    go_ret
    have he := HE.out
    subst he
    refine ⟨?_, rfl⟩
    rcases mode_cases HA.out with rfl | rfl | rfl | rfl | rfl | rfl <;> rfl
  | false =>
    have HNE : Hid (a ≠ b) := by have h9 : a ≠ b := (by rw [beq_eq_false_iff_ne] at hab; exact hab); exact h9
    go_enter Tryz.func58, Tryz.ntmps58
    go_wp2_with fail
    refine (cA w).mono ?_
    rintro e w1 ⟨rfl, rfl⟩
    go_wp2_with fail
    refine (cB w1).mono ?_
    rintro e w2 ⟨rfl, rfl⟩
    clear cA cB
    go_wp2_with fail
    go_loopw [7] (fun vk wr => wr = w2 ∧ ∃ k : Int, vk = .int .u8 k ∧ 0 ≤ k ∧ k ≤ 6 ∧ Hid (∀ m : Int, 0 ≤ m → m < k → stepM a m = true → covM m b = false)) (fun vk _ => 6 - (intOf vk).toNat)
    case atStart => exact ⟨rfl, 0, rfl, by omega, by omega, fun m h1 h2 => by omega⟩
    case round =>
      obtain ⟨rfl, k, rfl, hk0, hk6, HK⟩ := hrel
      by_cases hk : k ≤ 5
      · have cS := step_any HA.out (show ModeOk k from ⟨hk0, hk⟩)
        have HW8 := wrap8 hk0 (by omega)
        go_wp2_with fail
        refine (cS _).mono ?_
        rintro e w3 ⟨rfl, rfl⟩
        cases hst : stepM a k with
        | true =>
          have HST := Lib.hid hst
          have cC := HR.out k ⟨hk0, hk⟩ hst
          unfold CovsAt at cC
          clear hst cS
          go_wp2_with fail
          refine (cC _).mono ?_
          rintro e w4 ⟨rfl, rfl⟩
          cases hc : covM k b with
          | true =>
            have HC := Lib.hid hc
            clear hc cC
            go_wp2_with fail
            go_ret
            rw [cov_below HA.out HB.out ⟨hk0, hk⟩ HST.out HC.out]
            exact ⟨rfl, rfl⟩
          | false =>
            have HC := Lib.hid hc
            clear hc cC
            go_wp2_with fail
            go_roundw
            case rel =>
              refine ⟨by first | rfl | trivial, k + 1, rfl, by omega, by omega, fun m h1 h2 h3 => ?_⟩
              by_cases e : m = k
              · subst e; exact HC.out
              · exact HK.out m h1 (by omega) h3
            case measure => simp [intOf]; omega
        | false =>
          have HST := Lib.hid hst
          clear hst cS
          go_wp2_with fail
          go_roundw
          case rel =>
            refine ⟨by first | rfl | trivial, k + 1, rfl, by omega, by omega, fun m h1 h2 h3 => ?_⟩
            by_cases e : m = k
            · subst e; rw [HST.out] at h3; cases h3
            · exact HK.out m h1 (by omega) h3
          case measure => simp [intOf]; omega
      · obtain rfl : k = 6 := by omega
        go_wp2_with fail
        go_ret
        rw [cov_none HA.out HB.out HNE.out HK.out]
        exact ⟨rfl, rfl⟩
theorem covs_any {a b : Int} (ha : ModeOk a) (hb : ModeOk b) : CovsAt a b := by
  have h0 : ∀ m, ModeOk m → m ≤ 0 → CovsAt m b := fun m hm h => covs_one hm hb fun k hk hs => by
    have : m = 0 := by have := hm.1; omega
    subst this
    exfalso; revert hs
    rcases mode_cases hk with rfl | rfl | rfl | rfl | rfl | rfl <;> decide
  have h1 : ∀ m, ModeOk m → m ≤ 1 → CovsAt m b := fun m hm h => covs_one hm hb fun k hk hs => by
    refine h0 k hk ?_
    revert hs h
    rcases mode_cases hm with rfl | rfl | rfl | rfl | rfl | rfl <;> rcases mode_cases hk with rfl | rfl | rfl | rfl | rfl | rfl <;> decide
  have h3 : ∀ m, ModeOk m → m ≤ 3 → CovsAt m b := fun m hm h => covs_one hm hb fun k hk hs => by
    refine h1 k hk ?_
    revert hs h
    rcases mode_cases hm with rfl | rfl | rfl | rfl | rfl | rfl <;> rcases mode_cases hk with rfl | rfl | rfl | rfl | rfl | rfl <;> decide
  have h4 : ∀ m, ModeOk m → m ≤ 4 → CovsAt m b := fun m hm h => covs_one hm hb fun k hk hs => by
    refine h3 k hk ?_
    revert hs h
    rcases mode_cases hm with rfl | rfl | rfl | rfl | rfl | rfl <;> rcases mode_cases hk with rfl | rfl | rfl | rfl | rfl | rfl <;> decide
  exact covs_one ha hb fun k hk hs => by
    refine h4 k hk ?_
    revert hs
    rcases mode_cases ha with rfl | rfl | rfl | rfl | rfl | rfl <;> rcases mode_cases hk with rfl | rfl | rfl | rfl | rfl | rfl <;> decide
end Go.Proofs.YtokeciekncincabGreat
