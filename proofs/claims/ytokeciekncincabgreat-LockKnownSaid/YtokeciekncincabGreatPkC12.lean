/-
  Walks of cmp.Compare, cmp.Or of three, and of the order of spots.
  No condition.
-/
import Derived.Test.YtokeciekncincabGreatPkC7
import Derived.Sort.Grow
namespace Go.Proofs.YtokeciekncincabGreat
open Go Go.RowKit Go.Maps Go.Sort

def cmpZ (x y : Int) : Int := if x < y then -1 else if y < x then 1 else 0
theorem cmpZ_lt {x y : Int} (h : x < y) : cmpZ x y = -1 := by unfold cmpZ; rw [if_pos h]
theorem cmpZ_gt {x y : Int} (h1 : ¬ x < y) (h : y < x) : cmpZ x y = 1 := by unfold cmpZ; rw [if_neg h1, if_pos h]
theorem cmpZ_eq {x y : Int} (h1 : ¬ x < y) (h : ¬ y < x) : cmpZ x y = 0 := by unfold cmpZ; rw [if_neg h1, if_neg h]
/-- Draws and new blocks behind. -/
def Grew (w w' : World) : Prop := ∃ q os, w' = grow (w.drewN q) os
theorem grow_drew (w : World) (q : Nat) (os : Array Obj) : (grow w os).drewN q = grow (w.drewN q) os := by cases q <;> rfl
theorem Grew.refl (w : World) : Grew w w := ⟨0, #[], by rw [grow_empty]; rfl⟩
theorem drewN_drewN (w : World) (a b : Nat) : (w.drewN a).drewN b = w.drewN (a + b) := by simp
theorem Grew.trans {a b c : World} (h : Grew a b) (k : Grew b c) : Grew a c := by
  obtain ⟨q, os, rfl⟩ := h
  obtain ⟨q2, os2, rfl⟩ := k
  exact ⟨q + q2, os ++ os2, by rw [grow_drew, grow_grow, drewN_drewN]⟩
theorem Grew.alloc {a b : World} (h : Grew a b) (o : Obj) : Grew a (b.alloc o) := h.trans ⟨0, #[o], by rw [alloc_eq_grow]; rfl⟩
theorem Grew.drew {a b : World} (h : Grew a b) : Grew a b.drew := h.trans ⟨1, #[], by rw [grow_empty]; rfl⟩
theorem Grew.fr {a b : World} (h : Grew a b) : Fr a b Nil := by
  obtain ⟨q, os, rfl⟩ := h
  have h1 := (Fr.refl a Nil).drewN q
  refine h1.trans0 ⟨rfl, rfl, rfl, by simp [grow], fun k hk _ => ?_⟩
  show ((a.drewN q).heap ++ os)[k]? = _
  rw [Array.getElem?_append_left hk]
theorem Grew.cell {w0 : World} {a : Addr} {v : Value} (h : w0.cell? a = some v) : ∀ w, Grew w0 w → w.cell? a = some v := fun _ hf => Fr.cell hf.fr h fun h => h
set_option maxHeartbeats 1000000 in
theorem isNaN_int (x : Int) (w : World) : Calls Tryz.prog 103 #[.int .i64 x] w fun e w' => e = .returned (.bool false) ∧ w' = w := by
  have hx : (x != x) = false := by simp
  go_enter Tryz.func103, Tryz.ntmps103
  go_wp2_with fail
  go_ret
  exact ⟨by first | rfl | simp, rfl⟩
theorem isNaN_i64 (x : Int) (w : World) : Calls Tryz.prog 104 #[.int .i64 x] w fun e w' => e = .returned (.bool false) ∧ w' = w := by
  have hx : (x != x) = false := by simp
  go_enter Tryz.func104, Tryz.ntmps104
  go_wp2_with fail
  go_ret
  exact ⟨by first | rfl | simp, rfl⟩
set_option maxHeartbeats 1000000 in
theorem cmp_int (x y : Int) (w : World) : Calls Tryz.prog 81 #[.int .i64 x, .int .i64 y] w fun e w' => e = .returned (.int .i64 (cmpZ x y)) ∧ w' = w := by
  obtain ⟨r, hr⟩ : ∃ r, cmpZ x y = r := ⟨_, rfl⟩
  rw [hr]
  have HR := Lib.hid hr
  clear hr
  go_enter Tryz.func81, Tryz.ntmps81
  go_wp2_with fail
  refine (isNaN_int x _).mono ?_
  rintro e w1 ⟨rfl, rfl⟩
  go_wp2_with fail
  refine (isNaN_int y _).mono ?_
  rintro e w1 ⟨rfl, rfl⟩
  by_cases h1 : x < y
  · have H1 := Lib.hid h1
    go_wp2_with fail
    go_ret
    rw [← HR.out, cmpZ_lt H1.out]
    exact ⟨rfl, rfl⟩
  · have H1 := Lib.hid h1
    by_cases h2 : y < x
    · have H2 := Lib.hid h2
      go_wp2_with fail
      go_ret
      rw [← HR.out, cmpZ_gt (by have := H1.out; omega) H2.out]
      exact ⟨rfl, rfl⟩
    · have H2 := Lib.hid h2
      go_wp2_with fail
      go_ret
      rw [← HR.out, cmpZ_eq (by have := H1.out; omega) (by have := H2.out; omega)]
      exact ⟨rfl, rfl⟩
set_option maxHeartbeats 1000000 in
theorem cmp_i64 (x y : Int) (w : World) : Calls Tryz.prog 82 #[.int .i64 x, .int .i64 y] w fun e w' => e = .returned (.int .i64 (cmpZ x y)) ∧ w' = w := by
  obtain ⟨r, hr⟩ : ∃ r, cmpZ x y = r := ⟨_, rfl⟩
  rw [hr]
  have HR := Lib.hid hr
  clear hr
  go_enter Tryz.func82, Tryz.ntmps82
  go_wp2_with fail
  refine (isNaN_i64 x _).mono ?_
  rintro e w1 ⟨rfl, rfl⟩
  go_wp2_with fail
  refine (isNaN_i64 y _).mono ?_
  rintro e w1 ⟨rfl, rfl⟩
  by_cases h1 : x < y
  · have H1 := Lib.hid h1
    go_wp2_with fail
    go_ret
    rw [← HR.out, cmpZ_lt H1.out]
    exact ⟨rfl, rfl⟩
  · have H1 := Lib.hid h1
    by_cases h2 : y < x
    · have H2 := Lib.hid h2
      go_wp2_with fail
      go_ret
      rw [← HR.out, cmpZ_gt (by have := H1.out; omega) H2.out]
      exact ⟨rfl, rfl⟩
    · have H2 := Lib.hid h2
      go_wp2_with fail
      go_ret
      rw [← HR.out, cmpZ_eq (by have := H1.out; omega) (by have := H2.out; omega)]
      exact ⟨rfl, rfl⟩
def orZ (a b c : Int) : Int := if a ≠ 0 then a else if b ≠ 0 then b else c
set_option maxHeartbeats 2000000 in
theorem or_any (a b c : Int) (j : Nat) (w : World) (q0 : w.cell? ⟨j, 0, none⟩ = some (.int .i64 a)) (q1 : w.cell? ⟨j, 1, none⟩ = some (.int .i64 b)) (q2 : w.cell? ⟨j, 2, none⟩ = some (.int .i64 c)) :
    Calls Tryz.prog 80 #[.slice (some ⟨j, 0, none⟩) 3 3] w fun e w' => e = .returned (.int .i64 (orZ a b c)) ∧ w' = w := by
  obtain ⟨r, hr⟩ : ∃ r, orZ a b c = r := ⟨_, rfl⟩
  rw [hr]
  have HR := Lib.hid hr
  clear hr
  go_enter Tryz.func80, Tryz.ntmps80
  go_wp2_with fail
  go_loopw [8] (fun vi wr => wr = w ∧ (vi = .int .i64 0 ∨ (vi = .int .i64 1 ∧ Hid (a = 0)) ∨ (vi = .int .i64 2 ∧ Hid (a = 0 ∧ b = 0)) ∨ (vi = .int .i64 3 ∧ Hid (a = 0 ∧ b = 0 ∧ c = 0)))) (fun vi _ => 3 - (intOf vi).toNat)
  case atStart => exact ⟨rfl, .inl rfl⟩
  case round =>
    obtain ⟨rfl, hrel⟩ := hrel
    rcases hrel with rfl | ⟨rfl, h⟩ | ⟨rfl, h⟩ | ⟨rfl, h⟩
    · by_cases h1 : a = 0
      · have H1 := Lib.hid h1
        have h2 : (a != 0) = false := by simp [h1]
        clear h1
        go_wp2_with fail
        go_roundw
        case rel => exact ⟨by first | rfl | trivial, .inr (.inl ⟨rfl, H1⟩)⟩
        case measure => simp [intOf]
      · have h2 : (a != 0) = true := by simp [h1]
        go_wp2_with fail
        go_ret
        rw [← HR.out]
        exact ⟨by simp [orZ, h1], rfl⟩
    · by_cases h1 : b = 0
      · have H1 := Lib.hid h1
        have h2 : (b != 0) = false := by simp [h1]
        clear h1
        go_wp2_with fail
        go_roundw
        case rel => exact ⟨by first | rfl | trivial, .inr (.inr (.inl ⟨rfl, ⟨h.out, H1.out⟩⟩))⟩
        case measure => simp [intOf]
      · have h2 : (b != 0) = true := by simp [h1]
        go_wp2_with fail
        go_ret
        rw [← HR.out]
        exact ⟨by simp [orZ, h1, h.out], rfl⟩
    · by_cases h1 : c = 0
      · have H1 := Lib.hid h1
        have h2 : (c != 0) = false := by simp [h1]
        clear h1
        go_wp2_with fail
        go_roundw
        case rel => exact ⟨by first | rfl | trivial, .inr (.inr (.inr ⟨rfl, ⟨h.out.1, h.out.2, H1.out⟩⟩))⟩
        case measure => simp [intOf]
      · have h2 : (c != 0) = true := by simp [h1]
        go_wp2_with fail
        go_ret
        rw [← HR.out]
        exact ⟨by simp [orZ, h.out.1, h.out.2], rfl⟩
    · go_wp2_with fail
      go_ret
      rw [← HR.out]
      exact ⟨by simp [orZ, h.out.1, h.out.2.1, h.out.2.2], rfl⟩
def rowN (b : Bool) : Int := if b then 1 else 0
set_option maxHeartbeats 1000000 in
theorem rowN_any (s : Spot) (w : World) : Calls Tryz.prog 79 #[spV s] w fun e w' => e = .returned (.int .i64 (rowN s.2.1)) ∧ Grew w w' := by
  obtain ⟨t, r, k⟩ := s
  have HG := Lib.hid ((Grew.refl w).alloc (.cells #[.int .i64 t, .bool r, .int .i64 k] 30))
  go_enter Tryz.func79, Tryz.ntmps79
  cases r
  · go_wp2_with fail
    go_ret
    exact ⟨rfl, HG.out⟩
  · go_wp2_with fail
    go_ret
    exact ⟨rfl, HG.out⟩
def ordZ (a b : Spot) : Int := orZ (cmpZ a.1 b.1) (rowN a.2.1 - rowN b.2.1) (cmpZ a.2.2 b.2.2)
set_option maxRecDepth 100000 in
set_option maxHeartbeats 4000000 in
theorem order_any (a b : Spot) (w : World) : Calls Tryz.prog 51 #[spV a, spV b] w fun e w' => e = .returned (.int .i64 (ordZ a b)) ∧ Grew w w' := by
  obtain ⟨r, hr⟩ : ∃ r, ordZ a b = r := ⟨_, rfl⟩
  rw [hr]
  have HR := Lib.hid hr
  clear hr
  have ho1 := rowN_any a
  have ho2 := rowN_any b
  obtain ⟨a1, a2, a3⟩ := a
  obtain ⟨b1, b2, b3⟩ := b
  obtain ⟨wx, hwx⟩ : ∃ wx, (w.alloc (.cells #[.int .i64 a1, .bool a2, .int .i64 a3] 30)).alloc (.cells #[.int .i64 b1, .bool b2, .int .i64 b3] 30) = wx := ⟨_, rfl⟩
  have hg : Grew w wx := by rw [← hwx]; exact ((Grew.refl w).alloc _).alloc _
  have hb1 : Bk wx w.heap.size 30 [.int .i64 a1, .bool a2, .int .i64 a3] := by
    rw [← hwx]; exact (Bk.new w 30 #[.int .i64 a1, .bool a2, .int .i64 a3]).alloc _
  have hb2 : Bk wx (w.heap.size + 1) 30 [.int .i64 b1, .bool b2, .int .i64 b3] := by
    rw [← hwx]
    have := Bk.new (w.alloc (.cells #[.int .i64 a1, .bool a2, .int .i64 a3] 30)) 30 #[.int .i64 b1, .bool b2, .int .i64 b3]
    rw [World.size_alloc] at this
    exact this
  have k0 := Grew.cell (hb1.cell 0)
  have k1 := Grew.cell (hb1.cell 1)
  have k2 := Grew.cell (hb1.cell 2)
  have l0 := Grew.cell (hb2.cell 0)
  have l1 := Grew.cell (hb2.cell 1)
  have l2 := Grew.cell (hb2.cell 2)
  have HG := Lib.hid hg
  clear hg hb1 hb2
  go_enter Tryz.func51, Tryz.ntmps51
  go_wp2_with fail
  generalize w.heap.size = N at *
  clear hwx
  refine wp_region_sink 19 (Grew wx) (by kernel_rfl) ?_
  have hSa : Grew wx wx.drew := (Grew.refl wx).drew
  refine tk 0 hSa ?_
  try simp only [Act.put, sA, sB, sC]
  refine tk 1 hSa ?_ (hy := by intro _ w; have ck0 := k0 _ w; go_simp <;> with_reducible rfl)
  try simp only [Act.put, sA, sB, sC]
  refine tk 2 hSa ?_
  try simp only [Act.put, sA, sB, sC]
  refine tk 3 hSa ?_ (hy := by intro _ w; have cl0 := l0 _ w; go_simp <;> with_reducible rfl)
  try simp only [Act.put, sA, sB, sC]
  refine tk 5 hSa ?_
  try simp only [Act.put, sA, sB, sC]
  refine tk 6 hSa ?_ (hy := by intro _ w; have ck0 := k0 _ w; have ck1 := k1 _ w; have ck2 := k2 _ w; go_simp <;> with_reducible rfl)
  try simp only [Act.put, sA, sB, sC]
  refine tk 8 hSa ?_
  try simp only [Act.put, sA, sB, sC]
  refine tk 9 hSa ?_ (hy := by intro _ w; have cl0 := l0 _ w; have cl1 := l1 _ w; have cl2 := l2 _ w; go_simp <;> with_reducible rfl)
  try simp only [Act.put, sA, sB, sC]
  refine tk 12 hSa ?_
  try simp only [Act.put, sA, sB, sC]
  refine tk 13 hSa ?_ (hy := by intro _ w; have ck2 := k2 _ w; go_simp <;> with_reducible rfl)
  try simp only [Act.put, sA, sB, sC]
  refine tk 14 hSa ?_
  try simp only [Act.put, sA, sB, sC]
  refine tk 15 hSa ?_ (hy := by intro _ w; have cl2 := l2 _ w; go_simp <;> with_reducible rfl)
  try simp only [Act.put, sA, sB, sC]
  refine on1 4 fun K hK => ?_
  go_simp
  refine (cmp_int a1 b1 _).mono ?_
  rintro e w1 ⟨rfl, rfl⟩
  refine hK.out _ _ hSa ?_
  clear hK K
  try simp only [Act.put, sA, sB, sC]
  refine on1 7 fun K hK => ?_
  go_simp
  refine (ho1 _).mono ?_
  rintro e w2 ⟨rfl, h2⟩
  have hSb := hSa.trans h2
  refine hK.out _ _ hSb ?_
  clear hK K h2
  try simp only [Act.put, sA, sB, sC]
  refine on1 10 fun K hK => ?_
  go_simp
  refine (ho2 _).mono ?_
  rintro e w3 ⟨rfl, h3⟩
  have hSc := hSb.trans h3
  refine hK.out _ _ hSc ?_
  clear hK K h3 hSb
  try simp only [Act.put, sA, sB, sC]
  have hwr : wrap64 (rowN a2 - rowN b2) = rowN a2 - rowN b2 := by cases a2 <;> cases b2 <;> kernel_rfl
  have hwr2 : IntKind.i64.wrap (rowN a2 - rowN b2) = rowN a2 - rowN b2 := by cases a2 <;> cases b2 <;> kernel_rfl
  refine tk 11 hSc ?_
  try simp only [Act.put, sA, sB, sC]
  refine on1 16 fun K hK => ?_
  go_simp
  refine (cmp_i64 a3 b3 _).mono ?_
  rintro e w4 ⟨rfl, rfl⟩
  refine hK.out _ _ hSc ?_
  clear hK K
  try simp only [Act.put, sA, sB, sC]
  refine on1 17 fun K hK => ?_
  go_simp
  have hnb := Bk.new w4 3 #[.int .i64 (cmpZ a1 b1), .int .i64 (rowN a2 - rowN b2), .int .i64 (cmpZ a3 b3)]
  have hSd := hSc.alloc (.cells #[.int .i64 (cmpZ a1 b1), .int .i64 (rowN a2 - rowN b2), .int .i64 (cmpZ a3 b3)] 3)
  refine hK.out _ _ hSd ?_
  clear hK K
  try simp only [Act.put, sA, sB, sC]
  refine on1 18 fun K hK => ?_
  go_simp
  refine (or_any _ _ _ _ _ (hnb.cell 0) (hnb.cell 1) (hnb.cell 2)).mono ?_
  rintro e w5 ⟨rfl, rfl⟩
  refine hK.out _ _ hSd ?_
  clear hK K
  try simp only [Act.put, sA, sB, sC]
  refine wpAnyS_last (i := 19) rfl (by kernel_rfl) (by decide) (by kernel_rfl) (by rfl) fun K hK => ?_
  go_simp
  refine hK.out _ _ ?_
  clear hK K
  have HS := Lib.hid (HG.out.trans hSd)
  have HRR : Hid (orZ (cmpZ a1 b1) (rowN a2 - rowN b2) (cmpZ a3 b3) = r) := HR.out
  clear hSa hSc hSd hnb HR k0 k1 k2 l0 l1 l2 ho1 ho2
  go_wp2_with fail
  go_ret
  rw [← HRR.out]
  exact ⟨rfl, HS.out⟩
/-! ### less: as the document has it -/
theorem ordZ_less (a b : Spot) : decide (ordZ a b < 0) = lessS a b := by
  obtain ⟨a1, a2, a3⟩ := a
  obtain ⟨b1, b2, b3⟩ := b
  unfold ordZ orZ cmpZ lessS
  dsimp only
  by_cases h1 : a1 < b1
  · have h2 : a1 ≠ b1 := by omega
    simp [h1, h2]
  · by_cases h2 : b1 < a1
    · have h3 : a1 ≠ b1 := by omega
      simp [h1, h2, h3]
    · obtain rfl : a1 = b1 := by omega
      by_cases h3 : a3 < b3
      · cases a2 <;> cases b2 <;> simp [rowN, h3]
      · by_cases h4 : b3 < a3
        · cases a2 <;> cases b2 <;> simp [rowN, h3, h4]
        · cases a2 <;> cases b2 <;> simp [rowN, h3, h4]
end Go.Proofs.YtokeciekncincabGreat
