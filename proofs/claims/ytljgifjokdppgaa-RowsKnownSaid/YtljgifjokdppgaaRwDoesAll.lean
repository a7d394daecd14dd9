/-
  Walk of does, whole.
  No condition but sizes.
-/
import Derived.Test.YtljgifjokdppgaaRwDoes
namespace Go.Proofs.Ytljgifjokdppgaa
open Go Go.RowKit
set_option maxRecDepth 100000 in
set_option maxHeartbeats 1000000 in
theorem does_get {rb qb : Nat} {M : List MTab} {S T : Nat → Prop} {B : Nat} (c : CallD) (w : World) (h : Both w rb qb M S T) (hg : Good M) (hfew : Few B M) (hB : B < 1000) (hcv : IntsAt w c.cv c.cols) (hca : 0 < c.cols.length → ∀ k, c.cv.ownBlock = some k → ¬ S k ∧ ¬ T k) (hcl : c.cols.length ≤ 1000000) (hu : 0 ≤ c.kind ∧ c.kind < 256) (hkd : c.kind % 8 = 6 ∨ c.kind % 8 = 7) :
    Calls Try.prog 21 #[.pointer (some ⟨rb, 0, none⟩), .pointer (some ⟨qb, 0, none⟩), .agg #[.int .u8 c.kind, .int .i64 c.table, .int .i64 c.key, .int .i64 c.col, .int .i64 c.n, c.cv]] w fun e w' =>
      e = .returned (.bool true) ∧ BothUpd w rb qb S T (mstep M c) w' := by
  obtain ⟨kd, tb, ky, cl, nn, cv, xs⟩ := c
  simp only at hcv hca hcl hu hkd
  obtain ⟨hu0, hu1⟩ := hu
  obtain ⟨av, cc, rfl⟩ := hcv.shape
  have HG := Lib.hid hg
  have HFW := Lib.hid hfew
  have HQ := Lib.hid (qok_flat hg hfew (by omega))
  have hf0 : Fr w (w.alloc (Obj.cells #[Value.int .u8 kd, .int .i64 tb, .int .i64 ky, .int .i64 cl, .int .i64 nn, .slice av xs.length cc] 32)) Nil := (Fr.refl w Nil).alloc _
  have H0 := Lib.hid (h.fr0 hf0)
  have HX0 := Lib.hid (Bk.new w 32 #[Value.int .u8 kd, .int .i64 tb, .int .i64 ky, .int .i64 cl, .int .i64 nn, .slice av xs.length cc])
  have HC0 : Hid (IntsAt (w.alloc (Obj.cells #[Value.int .u8 kd, .int .i64 tb, .int .i64 ky, .int .i64 cl, .int .i64 nn, .slice av xs.length cc] 32)) (.slice av xs.length cc) xs) := hcv.fr hf0 fun _ _ h => h
  have HS : Hid (¬ S w.heap.size ∧ ¬ T w.heap.size) := ⟨fun hk => by have := h.rws.lt _ hk; omega, fun hk => by have := h.ref.lt _ hk; omega⟩
  have HCA := Lib.hid hca
  have HL0 : Hid ((∀ k, S k → k < w.heap.size) ∧ (∀ k, T k → k < w.heap.size)) := ⟨h.rws.lt, h.ref.lt⟩
  have HF0 := Lib.hid hf0
  clear h hg hfew hcv hca hf0
  have HLT : Hid ((∀ k, S k → w.heap.size + 1 ≤ k → False) ∧ (∀ k, T k → w.heap.size + 1 ≤ k → False)) := ⟨fun k hk hl => by have := HL0.out.1 k hk; omega, fun k hk hl => by have := HL0.out.2 k hk; omega⟩
  have hk := hkd
  clear hkd
  have HST : Hid (mstep M ⟨kd, tb, ky, cl, nn, .slice av xs.length cc, xs⟩ = M) := (if_neg (show ¬ kd % 8 < 4 by omega)).trans ((if_neg (show ¬ kd % 8 = 4 by omega)).trans (if_neg (show ¬ kd % 8 = 5 by omega)))
  have g0 : (kd % 8 == 0) = false := by rw [beq_eq_false_iff_ne]; omega
  have g1 : (kd % 8 == 1) = false := by rw [beq_eq_false_iff_ne]; omega
  have g2 : (kd % 8 == 2) = false := by rw [beq_eq_false_iff_ne]; omega
  have g3 : (kd % 8 == 3) = false := by rw [beq_eq_false_iff_ne]; omega
  have g4 : (kd % 8 == 4) = false := by rw [beq_eq_false_iff_ne]; omega
  have g5 : (kd % 8 == 5) = false := by rw [beq_eq_false_iff_ne]; omega
  clear hk
  go_enter Try.func21, Try.ntmps21
  go_wp2_with (first
    | (at_builtin
       refine wpList_app _ rfl _ _ _ rfl slI (.slice none 0 0) rfl (World.ownsRow_nil _ _ _ _) _ rfl (SlAt.of_ints HC0.out) (ints_one _) (by omega) ?_
       intro a1 c1 w1 ho hg hat
       rw [Nat.zero_add] at ho hat
       have HC1 := Lib.hid (Cloned.of_app rfl ho hg hat)
       have hX1 := HX0.out.fr HC1.out.2.2 (fun h => h)
       have x0 := hX1.cell 0
       have x1 := hX1.cell 1
       have x2 := hX1.cell 2
       have x3 := hX1.cell 3
       have x4 := hX1.cell 4
       have x5 := hX1.cell 5
       clear ho hg hat)
    | fail)
  have H1 := Lib.hid (H0.out.fr0 HC1.out.2.2)
  have HA1 : Hid (∀ k, (Value.slice a1 xs.length c1).ownBlock = some k → ¬ S k ∧ ¬ T k ∧ k < w1.heap.size) := fun k hk => by
    have h1 := HC1.out.2.1 k hk
    simp only [World.size_alloc] at h1
    refine ⟨fun hs => ?_, fun hs => ?_, HC1.out.1.lt k hk⟩
    · have := H0.out.rws.lt k hs; simp only [World.size_alloc] at this
      exact HLT.out.1 k hs h1
    · exact HLT.out.2 k hs h1
  refine (api_get tb ky H1.out.rws HG.out).mono ?_
  rintro e w2 hget
  rcases hget with ⟨ys, hm, a5, c5, rfl, hcl2⟩ | ⟨hm, rfl, hf2⟩
  · have hyl : ys.length ≤ 1000000 := by
      have h1 := mget_width HG.out hm
      have h2 := (HG.out.at tb).le
      omega
    have HMG := Lib.hid hm
    have HCL2 := Lib.hid hcl2
    have hX2 := HX0.out.fr (HC1.out.2.2.trans0 hcl2.2.2) (fun h => h)
    have x0 := hX2.cell 0
    have x1 := hX2.cell 1
    have x2 := hX2.cell 2
    clear hcl2 hX2 hm
    go_wp2_with fail
    refine (rget_any tb ky _ (H1.out.ref.fr0 HCL2.out.2.2) HQ.out).mono ?_
    rintro e w3 hq
    rw [QGetRet, rel_get, HMG.out] at hq
    rcases hq with ⟨zs, hz, a6, c6, rfl, hcl3⟩ | ⟨hz, _⟩
    rotate_left
    · cases hz
    cases hz
    have HCL3 := Lib.hid hcl3
    clear hcl3 x0 x1 x2
    go_wp2_with fail
    refine (sameInts_any _ _ ys ys _ (HCL2.out.1.at.fr HCL3.out.2.2 fun _ _ h => h) HCL3.out.1.at hyl hyl).mono ?_
    rintro e w3b ⟨he, hf3⟩
    rw [decide_eq_true rfl] at he
    subst he
    have HF13 : Hid (Fr w1 w3b Nil) := ((HCL2.out.2.2.trans0 HCL3.out.2.2).trans0 hf3)
    have HBU : Hid (BothUpd w1 rb qb S T (mstep M ⟨kd, tb, ky, cl, nn, .slice av xs.length cc, xs⟩) w3b) := by
      show BothUpd _ _ _ _ _ _ _
      rw [HST.out]
      exact H1.out.same HF13.out
    have F3 : Hid (Fr w1 w3b (fun k => S k ∨ T k)) := HBU.out.fr
    clear hf3
    have HX3 := HX0.out.fr (HC1.out.2.2.of_nil.transS F3.out) (fun h => h.elim HS.out.1 HS.out.2)
    have x5 := HX3.cell 5
    have HIN := Lib.hid (HC1.out.1.fr F3.out fun k hk h => h.elim (HA1.out k hk).1 (HA1.out k hk).2.1)
    have HAR := Lib.hid (HC0.out.frN (HC1.out.2.2.of_nil.transS F3.out) fun hx k hk h => h.elim (HCA.out hx k hk).1 (HCA.out hx k hk).2)
    clear HX3
    go_wp2_with fail
    refine (sameInts_any _ _ xs xs _ HIN.out.at HAR.out hcl hcl).mono ?_
    rintro e w4 ⟨he, hf4⟩
    rw [decide_eq_true rfl] at he
    subst he
    have HIN4 := Lib.hid (HIN.out.fr hf4 fun _ _ h => h)
    have HF4 := Lib.hid hf4
    clear hf4 x5
    go_wp2_with fail
    go_loopw [23] (fun vi wr => ∃ (i : Nat) (ys : List Int), i ≤ xs.length ∧ vi = .int .i64 i ∧ ys.length = xs.length ∧ OwnInts wr 2 (.slice a1 ys.length c1) ys ∧ Fr w4 wr (fun k => (Value.slice a1 xs.length c1).ownBlock = some k)) (fun vi _ => xs.length - (intOf vi).toNat)
    case atStart => exact ⟨0, xs, by omega, rfl, rfl, HIN4.out, Fr.refl _ _⟩
    case round =>
      obtain ⟨i, ys, hi, rfl, hyl, hown, hfr⟩ := hrel
      have Hyl := Lib.hid hyl
      have Hown := Lib.hid hown
      have Hfr := Lib.hid hfr
      clear hyl hown hfr
      by_cases hlt : i < xs.length
      · have hly : i < ys.length := by have := Hyl.out; omega
        obtain ⟨b, cap2, hv, _⟩ := Hown.out.form (by omega)
        simp only [Value.slice.injEq, true_and] at hv
        obtain ⟨rfl, rfl⟩ := hv
        have p0 := Hown.out.cell rfl i hly
        have p1 := Hown.out.free rfl i
        generalize ys.getD i 0 = y at p0
        have hiI : (i : Int) < (xs.length : Int) := by omega
        go_wp2_with fail
        go_roundw
        case rel =>
          refine ⟨i + 1, ys.set i (wrap64 (y + 1)), by omega, by go_num, by rw [List.length_set]; exact Hyl.out, ?_, Hfr.out.setCell (p := ⟨b, i, none⟩) (fun _ => rfl) _⟩
          have := Hown.out.set rfl i (wrap64 (y + 1))
          rw [List.length_set]
          exact this
        case measure => simp [intOf]; omega
      · go_wp2_with fail
        go_ret
        refine ⟨rfl, ?_⟩
        exact HBU.out.mine HA1.out Hfr.out HF4.out (HF0.out.trans0 HC1.out.2.2) (fun k hk => by have h1 := HC1.out.2.1 k hk; simp only [World.size_alloc] at h1; omega)
  · have HMG := Lib.hid hm
    have HF2 := Lib.hid hf2
    have hX2 := HX0.out.fr (HC1.out.2.2.trans0 hf2) (fun h => h)
    have x0 := hX2.cell 0
    have x1 := hX2.cell 1
    have x2 := hX2.cell 2
    clear hf2 hX2 hm
    go_wp2_with fail
    refine (rget_any tb ky _ (H1.out.ref.fr0 HF2.out) HQ.out).mono ?_
    rintro e w3 hq
    rw [QGetRet, rel_get, HMG.out] at hq
    rcases hq with ⟨zs, hz, _⟩ | ⟨_, rfl, hf3⟩
    · cases hz
    have HF3 := Lib.hid hf3
    clear hf3 x0 x1 x2
    go_wp2_with fail
    refine (sameInts_any _ _ [] [] _ (.inl ⟨rfl, rfl⟩) (.inl ⟨rfl, rfl⟩) (by simp) (by simp)).mono ?_
    rintro e w3b ⟨he, hf3⟩
    rw [decide_eq_true rfl] at he
    subst he
    have HF13 : Hid (Fr w1 w3b Nil) := ((HF2.out.trans0 HF3.out).trans0 hf3)
    have HBU : Hid (BothUpd w1 rb qb S T (mstep M ⟨kd, tb, ky, cl, nn, .slice av xs.length cc, xs⟩) w3b) := by
      show BothUpd _ _ _ _ _ _ _
      rw [HST.out]
      exact H1.out.same HF13.out
    have F3 : Hid (Fr w1 w3b (fun k => S k ∨ T k)) := HBU.out.fr
    clear hf3
    have HX3 := HX0.out.fr (HC1.out.2.2.of_nil.transS F3.out) (fun h => h.elim HS.out.1 HS.out.2)
    have x5 := HX3.cell 5
    have HIN := Lib.hid (HC1.out.1.fr F3.out fun k hk h => h.elim (HA1.out k hk).1 (HA1.out k hk).2.1)
    have HAR := Lib.hid (HC0.out.frN (HC1.out.2.2.of_nil.transS F3.out) fun hx k hk h => h.elim (HCA.out hx k hk).1 (HCA.out hx k hk).2)
    clear HX3
    go_wp2_with fail
    refine (sameInts_any _ _ xs xs _ HIN.out.at HAR.out hcl hcl).mono ?_
    rintro e w4 ⟨he, hf4⟩
    rw [decide_eq_true rfl] at he
    subst he
    have HIN4 := Lib.hid (HIN.out.fr hf4 fun _ _ h => h)
    have HF4 := Lib.hid hf4
    clear hf4 x5
    go_wp2_with fail
    go_loopw [23] (fun vi wr => ∃ (i : Nat) (ys : List Int), i ≤ xs.length ∧ vi = .int .i64 i ∧ ys.length = xs.length ∧ OwnInts wr 2 (.slice a1 ys.length c1) ys ∧ Fr w4 wr (fun k => (Value.slice a1 xs.length c1).ownBlock = some k)) (fun vi _ => xs.length - (intOf vi).toNat)
    case atStart => exact ⟨0, xs, by omega, rfl, rfl, HIN4.out, Fr.refl _ _⟩
    case round =>
      obtain ⟨i, ys, hi, rfl, hyl, hown, hfr⟩ := hrel
      have Hyl := Lib.hid hyl
      have Hown := Lib.hid hown
      have Hfr := Lib.hid hfr
      clear hyl hown hfr
      by_cases hlt : i < xs.length
      · have hly : i < ys.length := by have := Hyl.out; omega
        obtain ⟨b, cap2, hv, _⟩ := Hown.out.form (by omega)
        simp only [Value.slice.injEq, true_and] at hv
        obtain ⟨rfl, rfl⟩ := hv
        have p0 := Hown.out.cell rfl i hly
        have p1 := Hown.out.free rfl i
        generalize ys.getD i 0 = y at p0
        have hiI : (i : Int) < (xs.length : Int) := by omega
        go_wp2_with fail
        go_roundw
        case rel =>
          refine ⟨i + 1, ys.set i (wrap64 (y + 1)), by omega, by go_num, by rw [List.length_set]; exact Hyl.out, ?_, Hfr.out.setCell (p := ⟨b, i, none⟩) (fun _ => rfl) _⟩
          have := Hown.out.set rfl i (wrap64 (y + 1))
          rw [List.length_set]
          exact this
        case measure => simp [intOf]; omega
      · go_wp2_with fail
        go_ret
        refine ⟨rfl, ?_⟩
        exact HBU.out.mine HA1.out Hfr.out HF4.out (HF0.out.trans0 HC1.out.2.2) (fun k hk => by have h1 := HC1.out.2.1 k hk; simp only [World.size_alloc] at h1; omega)

set_option maxRecDepth 100000 in
set_option maxHeartbeats 1000000 in
theorem does_any {rb qb : Nat} {M : List MTab} {S T : Nat → Prop} {B : Nat} (c : CallD) (w : World) (h : Both w rb qb M S T) (hg : Good M) (hfew : Few B M) (hB : B < 1000) (hcv : IntsAt w c.cv c.cols) (hca : 0 < c.cols.length → ∀ k, c.cv.ownBlock = some k → ¬ S k ∧ ¬ T k) (hcl : c.cols.length ≤ 1000000) (hu : 0 ≤ c.kind ∧ c.kind < 256) :
    Calls Try.prog 21 #[.pointer (some ⟨rb, 0, none⟩), .pointer (some ⟨qb, 0, none⟩), .agg #[.int .u8 c.kind, .int .i64 c.table, .int .i64 c.key, .int .i64 c.col, .int .i64 c.n, c.cv]] w fun e w' =>
      e = .returned (.bool true) ∧ BothUpd w rb qb S T (mstep M c) w' := by
  have hk : (c.kind % 8 = 0 ∨ c.kind % 8 = 1 ∨ c.kind % 8 = 2 ∨ c.kind % 8 = 3) ∨ c.kind % 8 = 4 ∨ c.kind % 8 = 5 ∨ (c.kind % 8 = 6 ∨ c.kind % 8 = 7) := by omega
  rcases hk with hk | hk | hk | hk
  · exact does_put c w h hg hfew hB hcv hca hcl hu hk
  · exact does_set c w h hg hfew hB hcv hca hcl hu hk
  · exact does_del c w h hg hfew hB hcv hca hcl hu hk
  · exact does_get c w h hg hfew hB hcv hca hcl hu hk
end Go.Proofs.Ytljgifjokdppgaa
