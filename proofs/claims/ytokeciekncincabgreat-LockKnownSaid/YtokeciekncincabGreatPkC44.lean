/-
  Walks of the laws' holds and spots at rows that are the same; of the program's Less.
  No condition but sizes.
-/
import Derived.Test.YtokeciekncincabGreatPkC12
import Derived.Test.YtokeciekncincabGreatPkC32
import Derived.Test.YtokeciekncincabGreatPkC6
namespace Go.Proofs.YtokeciekncincabGreat
open Go Go.RowKit Go.Maps

set_option maxRecDepth 100000 in
theorem lkless_any (a b : Spot) (w : World) : Calls Tryz.prog 25 #[spV a, spV b] w fun e w' => e = .returned (.bool (lessS a b)) ∧ Fr w w' Nil := by
  obtain ⟨a1, a2, a3⟩ := a
  obtain ⟨b1, b2, b3⟩ := b
  obtain ⟨w0, hw0⟩ : ∃ w0, (w.alloc (.cells #[.int .i64 a1, .bool a2, .int .i64 a3] 30)).alloc (.cells #[.int .i64 b1, .bool b2, .int .i64 b3] 30) = w0 := ⟨_, rfl⟩
  have hf0 : Fr w w0 Nil := by rw [← hw0]; exact ((Fr.refl w Nil).alloc _).alloc _
  have hb0 : Bk w0 w.heap.size 30 [.int .i64 a1, .bool a2, .int .i64 a3] := by rw [← hw0]; exact (Bk.new w _ _).alloc _
  have hb1 : Bk w0 (w.heap.size + 1) 30 [.int .i64 b1, .bool b2, .int .i64 b3] := by
    rw [← hw0]
    have h1 := Bk.new (w.alloc (.cells #[.int .i64 a1, .bool a2, .int .i64 a3] 30)) 30 #[.int .i64 b1, .bool b2, .int .i64 b3]
    rw [World.size_alloc] at h1
    exact h1
  have p0 := hb0.cell 0
  have p1 := hb0.cell 1
  have p2 := hb0.cell 2
  have q0 := hb1.cell 0
  have q1 := hb1.cell 1
  have q2 := hb1.cell 2
  have HF := Lib.hid hf0
  have HLS := Lib.hid (ordZ_less (a1, a2, a3) (b1, b2, b3))
  have cO := order_any (a1, a2, a3) (b1, b2, b3)
  generalize ordZ (a1, a2, a3) (b1, b2, b3) = z at *
  clear hf0 hb0 hb1
  go_enter Tryz.func25, Tryz.ntmps25
  go_wp2_with fail
  refine (cO _).mono ?_
  rintro e w1 ⟨rfl, hg⟩
  have HF1 : Hid (Fr w w1 Nil) := Lib.hid (HF.out.trans0 (by first | exact hg.fr | (rw [← hw0]; exact hg.fr)))
  clear hg
  go_wp2_with fail
  go_ret
  exact ⟨by rw [← HLS.out]; rfl, HF1.out⟩
set_option maxHeartbeats 4000000 in
theorem lholds_any {av bv : Value} {r : List LkE} (w : World) (ha : OwnH w av (prs r)) (hb : OwnE w bv r) (hl : r.length ≤ 1000000) :
    Calls Tryz.prog 34 #[av, bv] w fun e w' => e = .returned (.bool true) ∧ Fr w w' Nil := by
  obtain ⟨aa, ac, rfl⟩ := ha.shape
  obtain ⟨ba, bc, rfl⟩ := hb.shape
  have hpl : (prs r).length = r.length := by unfold prs; rw [List.length_map]
  have HA := Lib.hid ha
  have HB := Lib.hid hb
  rw [hpl]
  clear ha hb
  have hself : ((r.length : Int) != (r.length : Int)) = false := by simp
  go_enter Tryz.func34, Tryz.ntmps34
  go_wp2_with fail
  go_loopw [5] (fun vi wr => ∃ k : Nat, k ≤ r.length ∧ vi = .int .i64 (k : Int) ∧ Hid (Fr w wr Nil)) (fun vi _ => r.length - (intOf vi).toNat)
  case atStart => exact ⟨0, by omega, by go_num, Fr.refl _ _⟩
  case round =>
    obtain ⟨k, hk, rfl, HF⟩ := hrel
    obtain ⟨wo, rfl⟩ : ∃ wo : World, wo = wr := ⟨_, rfl⟩
    by_cases hlt : k < r.length
    · have hkl : (k : Int) < (r.length : Int) := by omega
      obtain ⟨xb, xc, hxv, _, hxcl⟩ := HA.out.form (by rw [hpl]; omega)
      obtain ⟨yb, yc, hyv, _, hycl⟩ := HB.out.form (by omega)
      simp only [Value.slice.injEq, true_and] at hxv hyv
      obtain ⟨rfl, rfl⟩ := hxv
      obtain ⟨rfl, rfl⟩ := hyv
      obtain ⟨e, he⟩ : ∃ e, r[k]? = some e := ⟨_, List.getElem?_eq_getElem hlt⟩
      have hp : (prs r)[k]? = some (e.who, e.m) := by unfold prs; rw [List.getElem?_map, he]; rfl
      obtain ⟨x0, x1⟩ := hxcl k _ hp
      obtain ⟨_, _, _, y3, y4⟩ := hycl k e he
      replace x0 := HF.out.cell x0 (fun h => h)
      replace x1 := HF.out.cell x1 (fun h => h)
      replace y3 := HF.out.cell y3 (fun h => h)
      replace y4 := HF.out.cell y4 (fun h => h)
      dsimp only at x0 x1
      clear hxcl hycl hp he
      obtain ⟨es, ew, em⟩ := e
      dsimp only at x0 x1 y3 y4
      have h1 : (ew != ew) = false := by simp
      have h2 : (em != em) = false := by simp
      clear hself
      go_wp2_with fail
      go_quiet (fail)
      rename_i nq
      have HFq := Lib.hid (HF.out.drewN nq)
      go_wp2_with fail
      go_roundw
      case rel => exact ⟨k + 1, by omega, by go_num, HFq⟩
      case measure => simp [intOf]; omega
    · obtain rfl : k = r.length := by omega
      go_wp2_with fail
      go_ret
      exact ⟨rfl, HF.out⟩
set_option maxRecDepth 100000 in
set_option maxHeartbeats 4000000 in
theorem lspots_any {av bv : Value} {l : List Spot} (w : World) (ha : OwnSp w av l) (hb : OwnSp w bv l) (hs : SortedS l) (hl : l.length ≤ 1000000) :
    Calls Tryz.prog 38 #[av, bv] w fun e w' => e = .returned (.bool true) ∧ Fr w w' Nil := by
  obtain ⟨aa, ac, rfl⟩ := ha.shape
  obtain ⟨ba, bc, rfl⟩ := hb.shape
  have HA := Lib.hid ha
  have HB := Lib.hid hb
  have HS := Lib.hid hs
  clear ha hb hs
  have hself : ((l.length : Int) != (l.length : Int)) = false := by simp
  go_enter Tryz.func38, Tryz.ntmps38
  go_wp2_with fail
  go_loopw [5] (fun vi wr => ∃ k : Nat, k ≤ l.length ∧ vi = .int .i64 (k : Int) ∧ Hid (Fr w wr Nil)) (fun vi _ => l.length - (intOf vi).toNat)
  case atStart => exact ⟨0, by omega, by go_num, Fr.refl _ _⟩
  case round =>
    obtain ⟨k, hk, rfl, HF⟩ := hrel
    obtain ⟨wo, rfl⟩ : ∃ wo : World, wo = wr := ⟨_, rfl⟩
    by_cases hlt : k < l.length
    · have hkl : (k : Int) < (l.length : Int) := by omega
      obtain ⟨xb, xc, hxv, _, hxcl⟩ := HA.out.form (by omega)
      obtain ⟨yb, yc, hyv, _, hycl⟩ := HB.out.form (by omega)
      simp only [Value.slice.injEq, true_and] at hxv hyv
      obtain ⟨rfl, rfl⟩ := hxv
      obtain ⟨rfl, rfl⟩ := hyv
      obtain ⟨e, he⟩ : ∃ e, l[k]? = some e := ⟨_, List.getElem?_eq_getElem hlt⟩
      obtain ⟨x0, x1, x2⟩ := hxcl k e he
      obtain ⟨y0, y1, y2⟩ := hycl k e he
      have k1 : ∀ w', KeptN wo w' → w'.cell? ⟨xb, k * 3, none⟩ = some (.int .i64 e.1) := KeptN.cell (HF.out.cell x0 fun h => h)
      have k2 : ∀ w', KeptN wo w' → w'.cell? ⟨xb, k * 3 + 1, none⟩ = some (.bool e.2.1) := KeptN.cell (HF.out.cell x1 fun h => h)
      have k3 : ∀ w', KeptN wo w' → w'.cell? ⟨xb, k * 3 + 2, none⟩ = some (.int .i64 e.2.2) := KeptN.cell (HF.out.cell x2 fun h => h)
      have k4 : ∀ w', KeptN wo w' → w'.cell? ⟨yb, k * 3, none⟩ = some (.int .i64 e.1) := KeptN.cell (HF.out.cell y0 fun h => h)
      have k5 : ∀ w', KeptN wo w' → w'.cell? ⟨yb, k * 3 + 1, none⟩ = some (.bool e.2.1) := KeptN.cell (HF.out.cell y1 fun h => h)
      have k6 : ∀ w', KeptN wo w' → w'.cell? ⟨yb, k * 3 + 2, none⟩ = some (.int .i64 e.2.2) := KeptN.cell (HF.out.cell y2 fun h => h)
      clear hself x0 x1 x2 y0 y1 y2 hycl
      rcases Nat.eq_zero_or_pos k with rfl | hkp
      · obtain ⟨e1, e2, e3⟩ := e
        dsimp only at k1 k2 k3 k4 k5 k6
        have h1 : (e1 == e1) = true := by simp
        have h2 : (e2 == e2) = true := by simp
        have h3 : (e3 == e3) = true := by simp
        have h4 : decide (e1 = e1) = true := by simp
        have h5 : decide (e2 = e2) = true := by simp
        have h6 : decide (e3 = e3) = true := by simp
        simp only [Nat.zero_mul, Nat.zero_add] at k1 k2 k3 k4 k5 k6
        go_wp2_with fail
        refine wp_region_sink 26 (KeptN wo) (by kernel_rfl) ?_
        have hSa : KeptN wo wo.drew := KeptN.start wo
        refine tkA 0 hSa ?_
        refine tkA 1 hSa ?_
        refine tkA 2 hSa ?_
        try simp only [Act.put, sA, sB, sC]
        refine tkA 3 hSa ?_ (hy := by intro _ w; have ck1 := k1 _ w; have ck2 := k2 _ w; have ck3 := k3 _ w; go_simp <;> with_reducible rfl)
        try simp only [Act.put, sA, sB, sC]
        refine tkA 4 hSa ?_
        refine tkA 5 hSa ?_
        refine tkA 6 hSa ?_
        try simp only [Act.put, sA, sB, sC]
        refine tkA 7 hSa ?_ (hy := by intro _ w; have ck4 := k4 _ w; have ck5 := k5 _ w; have ck6 := k6 _ w; go_simp <;> with_reducible rfl)
        try simp only [Act.put, sA, sB, sC]
        refine tkA 8 hSa ?_
        refine tkA 9 hSa ?_
        refine tkA 10 hSa ?_
        refine tkA 11 hSa ?_
        refine tkA 12 hSa ?_
        try simp only [Act.put, sA, sB, sC]
        refine skA 13 hSa ?_
        try simp only [Act.put, sA, sB, sC]
        refine skA 14 hSa ?_
        try simp only [Act.put, sA, sB, sC]
        refine skA 15 hSa ?_
        try simp only [Act.put, sA, sB, sC]
        refine skA 16 hSa ?_
        try simp only [Act.put, sA, sB, sC]
        refine skA 17 hSa ?_
        try simp only [Act.put, sA, sB, sC]
        refine skA 18 hSa ?_
        try simp only [Act.put, sA, sB, sC]
        refine skA 19 hSa ?_
        try simp only [Act.put, sA, sB, sC]
        refine skA 20 hSa ?_
        try simp only [Act.put, sA, sB, sC]
        refine skA 21 hSa ?_
        try simp only [Act.put, sA, sB, sC]
        refine skA 22 hSa ?_
        try simp only [Act.put, sA, sB, sC]
        refine skA 23 hSa ?_
        try simp only [Act.put, sA, sB, sC]
        refine tkA 24 hSa ?_
        refine tkA 25 hSa ?_
        try simp only [Act.put, sA, sB, sC]
        refine wpAnyS_done (by kernel_rfl) ?_
        have HF1 := Lib.hid (HF.out.trans0 hSa)
        clear hSa k1 k2 k3 k4 k5 k6
        go_wp2_with fail
        go_roundw
        case rel => exact ⟨1, by omega, by go_num, HF1⟩
        case measure => simp [intOf]; omega
      · obtain ⟨j, hj⟩ : ∃ j : Nat, (k : Int) - 1 = (j : Int) := ⟨k - 1, by omega⟩
        have hjk : k = j + 1 := by omega
        obtain ⟨p, hp⟩ : ∃ p, l[j]? = some p := ⟨_, List.getElem?_eq_getElem (by omega)⟩
        obtain ⟨x0, x1, x2⟩ := hxcl j p hp
        have k7 : ∀ w', KeptN wo w' → w'.cell? ⟨xb, j * 3, none⟩ = some (.int .i64 p.1) := KeptN.cell (HF.out.cell x0 fun h => h)
        have k8 : ∀ w', KeptN wo w' → w'.cell? ⟨xb, j * 3 + 1, none⟩ = some (.bool p.2.1) := KeptN.cell (HF.out.cell x1 fun h => h)
        have k9 : ∀ w', KeptN wo w' → w'.cell? ⟨xb, j * 3 + 2, none⟩ = some (.int .i64 p.2.2) := KeptN.cell (HF.out.cell x2 fun h => h)
        have hls : lessS p e = true := by
          have h := HS.out
          unfold SortedS at h
          rw [List.pairwise_iff_getElem] at h
          have h1 := (List.getElem?_eq_some_iff.1 hp)
          have h2 := (List.getElem?_eq_some_iff.1 he)
          have h3 := h j k h1.1 h2.1 (by omega)
          rw [h1.2, h2.2] at h3
          exact h3
        have cL := lkless_any p e
        rw [hls] at cL
        have hk0 : (0 : Int) < (k : Int) := by omega
        have hi1 : (j : Int) < (l.length : Int) := by omega
        have hi0 : (0 : Int) ≤ (j : Int) := by omega
        have hwj : IntKind.i64.wrap (j : Int) = (j : Int) := by rw [IntKind.wrap_i64]; omega
        obtain ⟨e1, e2, e3⟩ := e
        obtain ⟨p1, p2, p3⟩ := p
        dsimp only at k1 k2 k3 k4 k5 k6 k7 k8 k9 cL
        have h1 : (e1 == e1) = true := by simp
        have h2 : (e2 == e2) = true := by simp
        have h3 : (e3 == e3) = true := by simp
        have h4 : decide (e1 = e1) = true := by simp
        have h5 : decide (e2 = e2) = true := by simp
        have h6 : decide (e3 = e3) = true := by simp
        clear hxcl x0 x1 x2 hp he hls hjk
        go_wp2_with fail
        refine wp_region_sink 26 (KeptN wo) (by kernel_rfl) ?_
        have hSa : KeptN wo wo.drew := KeptN.start wo
        refine tkA 0 hSa ?_
        refine tkA 1 hSa ?_
        refine tkA 2 hSa ?_
        try simp only [Act.put, sA, sB, sC]
        refine tkA 3 hSa ?_ (hy := by intro _ w; have ck1 := k1 _ w; have ck2 := k2 _ w; have ck3 := k3 _ w; go_simp <;> with_reducible rfl)
        try simp only [Act.put, sA, sB, sC]
        refine tkA 4 hSa ?_
        refine tkA 5 hSa ?_
        refine tkA 6 hSa ?_
        try simp only [Act.put, sA, sB, sC]
        refine tkA 7 hSa ?_ (hy := by intro _ w; have ck4 := k4 _ w; have ck5 := k5 _ w; have ck6 := k6 _ w; go_simp <;> with_reducible rfl)
        try simp only [Act.put, sA, sB, sC]
        refine tkA 8 hSa ?_
        refine tkA 9 hSa ?_
        refine tkA 10 hSa ?_
        refine tkA 11 hSa ?_
        refine tkA 12 hSa ?_
        try simp only [Act.put, sA, sB, sC]
        refine tkA 13 hSa ?_
        refine tkA 14 hSa ?_
        refine tkA 15 hSa ?_
        try simp only [Act.put, sA, sB, sC]
        refine tkA 16 hSa ?_
        try simp only [Act.put, sA, sB, sC]
        refine tkA 17 hSa ?_ (hy := by intro _ w; have ck7 := k7 _ w; have ck8 := k8 _ w; have ck9 := k9 _ w; go_simp <;> with_reducible rfl)
        try simp only [Act.put, sA, sB, sC]
        refine tkA 18 hSa ?_
        refine tkA 19 hSa ?_
        refine tkA 20 hSa ?_
        try simp only [Act.put, sA, sB, sC]
        refine tkA 21 hSa ?_ (hy := by intro _ w; have ck1 := k1 _ w; have ck2 := k2 _ w; have ck3 := k3 _ w; go_simp <;> with_reducible rfl)
        try simp only [Act.put, sA, sB, sC]
        refine on1 22 fun K hK => ?_
        go_simp
        refine (cL _).mono ?_
        rintro e w1 ⟨rfl, hf1⟩
        have hSb : KeptN wo w1 := KeptN.next hSa hf1
        refine hK.out _ _ hSb ?_
        clear hK K
        try simp only [Act.put, sA, sB, sC]
        refine tkA 23 hSb ?_
        refine tkA 24 hSb ?_
        refine tkA 25 hSb ?_
        try simp only [Act.put, sA, sB, sC]
        refine wpAnyS_done (by kernel_rfl) ?_
        have HF1 := Lib.hid (HF.out.trans0 hSb)
        clear hSa hSb hf1 k1 k2 k3 k4 k5 k6 k7 k8 k9
        go_wp2_with fail
        go_roundw
        case rel => exact ⟨k + 1, by omega, by go_num, HF1⟩
        case measure => simp [intOf]; omega
    · obtain rfl : k = l.length := by omega
      go_wp2_with fail
      go_ret
      exact ⟨rfl, HF.out⟩
end Go.Proofs.YtokeciekncincabGreat
