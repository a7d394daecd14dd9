/-
  Walks of New, Enter, Leave.
  No condition but sizes.
-/
import Derived.Test.YtplebgcgoigigaaAdGate
namespace Go.Proofs.Ytplebgcgoigigaa
open Go Go.RowKit Go.Maps Go.Shelf

def hasK (M : List (Int × Nd)) (x : Int) : Bool := (M.map Prod.fst).contains x
def enterC (c : CapD) (M : List (Int × Nd)) (x : Int) (n : Nd) : Int := if hasK M x || !n.may then 2 else if mayP c M n then 0 else 170
def enterM (c : CapD) (M : List (Int × Nd)) (x : Int) (n : Nd) : List (Int × Nd) := if hasK M x || !n.may then M else if mayP c M n then M ++ [(x, n)] else M
def leaveC (M : List (Int × Nd)) (x : Int) : Int := if hasK M x then 0 else 5
def leaveM (M : List (Int × Nd)) (x : Int) : List (Int × Nd) := M.filter fun p => !decide (p.1 = x)
theorem leave_none {M : List (Int × Nd)} {x : Int} (h : hasK M x = false) : leaveM M x = M := filter_none h

set_option maxRecDepth 100000 in
set_option maxHeartbeats 1000000 in
theorem new_no (c : CapD) (w : World) (h : c.may = false) : Calls Try.prog 8 #[c.val] w fun e w' => e = .returned (.tuple #[.pointer none, .int .i64 2]) ∧ Fr w w' Nil := by
  have H : Hid ([c.n, c.l, c.u].all fitsN = false) := by
    have : [c.n, c.l, c.u].all fitsN = false := by rw [← h]; unfold CapD.may; simp
    exact this
  clear h
  go_enter Try.func8, Try.ntmps8
  go_wp2_with fail
  refine (fits_any _ [c.n, c.l, c.u] _ (ints_of_bk2 (bk_at _ 2 #[.int .i64 c.n, .int .i64 c.l, .int .i64 c.u] _ (by simp)) rfl rfl) (by simp) (by simp)).mono ?_
  rintro e w' ⟨rfl, rfl⟩
  rw [H.out]
  go_wp2_with fail
  go_ret2
  exact ⟨rfl, ((Fr.refl w Nil).alloc _).alloc _⟩
set_option maxRecDepth 100000 in
set_option maxHeartbeats 1000000 in
theorem new_yes (c : CapD) (w : World) (h : c.may = true) : Calls Try.prog 8 #[c.val] w fun e w' => ∃ gb bm, e = .returned (.tuple #[.pointer (some ⟨gb, 0, none⟩), .int .i64 0]) ∧ GateAt w' gb bm c [] ∧ Fr w w' Nil ∧ w.heap.size ≤ gb ∧ w.heap.size ≤ bm := by
  have H : Hid ([c.n, c.l, c.u].all fitsN = true) := by
    have : [c.n, c.l, c.u].all fitsN = true := by rw [← h]; unfold CapD.may; simp
    exact this
  clear h
  have hmm := @run_makeMap Try.prog
  go_enter Try.func8, Try.ntmps8
  go_wp2_with fail
  refine (fits_any _ [c.n, c.l, c.u] _ (ints_of_bk2 (bk_at _ 2 #[.int .i64 c.n, .int .i64 c.l, .int .i64 c.u] _ (by simp)) rfl rfl) (by simp) (by simp)).mono ?_
  rintro e w' ⟨rfl, rfl⟩
  rw [H.out]
  have hf1 : Fr w ((w.alloc (.cells #[.int .i64 c.n, .int .i64 c.l, .int .i64 c.u] 23)).alloc (.cells #[.int .i64 c.n, .int .i64 c.l, .int .i64 c.u] 2)) Nil := ((Fr.refl w Nil).alloc _).alloc _
  have hbk := (bk_at w 23 #[.int .i64 c.n, .int .i64 c.l, .int .i64 c.u] _ rfl).alloc (.cells #[.int .i64 c.n, .int .i64 c.l, .int .i64 c.u] 2)
  have hsz : ((w.alloc (.cells #[.int .i64 c.n, .int .i64 c.l, .int .i64 c.u] 23)).alloc (.cells #[.int .i64 c.n, .int .i64 c.l, .int .i64 c.u] 2)).heap.size = w.heap.size + 1 + 1 := by simp
  generalize (w.alloc (.cells #[.int .i64 c.n, .int .i64 c.l, .int .i64 c.u] 23)).alloc (.cells #[.int .i64 c.n, .int .i64 c.l, .int .i64 c.u] 2) = w1 at *
  have q0 := hbk.cell 0
  have q1 := hbk.cell 1
  have q2 := hbk.cell 2
  have HS := Lib.hid hsz
  have HF := Lib.hid hf1
  clear hsz hf1 hbk H
  go_wp2_with fail
  go_ret2
  refine ⟨_, _, rfl, ⟨bk_at _ _ _ _ (by simp), (MapAt.made w1 Try.prog 2 ikey encN).fr0 ((Fr.refl _ Nil).alloc _)⟩, (HF.out.alloc _).alloc _, ?_, ?_⟩
  · have := HS.out; omega
  · have := HS.out; omega

set_option maxRecDepth 100000 in
set_option maxHeartbeats 2000000 in
theorem enter_any (gb bm : Nat) (c : CapD) (M : List (Int × Nd)) (x : Int) (n : Nd) (w : World) (h : GateAt w gb bm c M) (hc : c.wf) (hx : (Lit.int .i64 x).wf = true) (hl : M.length ≤ 1000000) :
    Calls Try.prog 10 #[.pointer (some ⟨gb, 0, none⟩), .int .i64 x, encN n] w fun e w' => e = .returned (.int .i64 (enterC c M x n)) ∧ GateAt w' gb bm c (enterM c M x n) ∧ Fr w w' (fun k => k = bm) := by
  have H := Lib.hid h
  have HC := Lib.hid hc
  have HX := Lib.hid hx
  have HBN := Lib.hid (bk_at w 27 #[.int .i64 n.proc, .bool n.single, .int .i64 n.l, .int .i64 n.u] _ rfl)
  have HNE := Lib.hid h.ne
  have H1 := Lib.hid (h.fr0 ((Fr.refl w Nil).alloc (.cells #[.int .i64 n.proc, .bool n.single, .int .i64 n.l, .int .i64 n.u] 27)))
  have HF1 : Hid (Fr w (w.alloc (.cells #[.int .i64 n.proc, .bool n.single, .int .i64 n.l, .int .i64 n.u] 27)) Nil) := (Fr.refl w Nil).alloc _
  have q3 := H1.out.1.cell 3
  have HL := Lib.hid hl
  clear h hc hx hl
  obtain ⟨g1, g2, g3, g4, hgv⟩ : ∃ g1 g2 g3 g4, getV M x zeroN = ⟨g1, g2, g3, g4⟩ := ⟨_, _, _, _, rfl⟩
  have HG := Lib.hid hgv
  clear hgv
  have HB1 := HBN.out.alloc (.cells #[.int .i64 g1, .bool g2, .int .i64 g3, .int .i64 g4] 27)
  have H2 := Lib.hid (H1.out.fr0 ((Fr.refl _ Nil).alloc (.cells #[.int .i64 g1, .bool g2, .int .i64 g3, .int .i64 g4] 27)))
  have HF2 := Lib.hid (HF1.out.alloc (.cells #[.int .i64 g1, .bool g2, .int .i64 g3, .int .i64 g4] 27))
  have HBX := Lib.hid HB1
  clear HB1 H HBN HF1
  cases hh : hasK M x with
  | true =>
    have HR : Hid (enterC c M x n = 2 ∧ enterM c M x n = M) := by
      have : enterC c M x n = 2 ∧ enterM c M x n = M := by unfold enterC enterM; rw [hh]; simp
      exact this
    have HH := Lib.hid hh
    clear hh
    go_enter Try.func10, Try.ntmps10
    go_wp2_with (at_lookup; refine wpList_map_lookb _ rfl _ _ 54 rfl 2 27 Try.keyI64 Try.underlying54 (z := zeroN) (zeroNeed _) intKey bm M rfl H1.out.2 _ x rfl (keyOf_int_mk Try.underlying2 HX.out) ⟨g1, g2, g3, g4⟩ HG.out true HH.out ?_)
    go_ret
    rw [HR.out.1, HR.out.2]
    exact ⟨rfl, H2.out, HF2.out.of_nil⟩
  | false =>
    have HH := Lib.hid hh
    clear hh
    have q0 := HBX.out.cell 0
    have q1 := HBX.out.cell 1
    have q2 := HBX.out.cell 2
    have q4 := HBX.out.cell 3
    go_enter Try.func10, Try.ntmps10
    go_wp2_with (at_lookup; refine wpList_map_lookb _ rfl _ _ 54 rfl 2 27 Try.keyI64 Try.underlying54 (z := zeroN) (zeroNeed _) intKey bm M rfl H1.out.2 _ x rfl (keyOf_int_mk Try.underlying2 HX.out) ⟨g1, g2, g3, g4⟩ HG.out false HH.out ?_)
    refine (may_any n _).mono ?_
    rintro e w3 ⟨rfl, hf3⟩
    have H3 := Lib.hid (H2.out.fr0 hf3)
    have HF3 := Lib.hid (HF2.out.trans0 hf3)
    have HB3 := Lib.hid (HBX.out.fr hf3 fun h => h)
    clear hf3 H2 HF2 HBX q0 q1 q2 q3 q4 H1
    cases hm : n.may with
    | false =>
      have HR : Hid (enterC c M x n = 2 ∧ enterM c M x n = M) := by
        have : enterC c M x n = 2 ∧ enterM c M x n = M := by unfold enterC enterM; rw [hm]; simp
        exact this
      clear hm
      go_wp2_with fail
      go_ret
      rw [HR.out.1, HR.out.2]
      exact ⟨rfl, H3.out, HF3.out.of_nil⟩
    | true =>
      have HMY := Lib.hid hm
      clear hm
      have q0 := HB3.out.cell 0
      have q1 := HB3.out.cell 1
      have q2 := HB3.out.cell 2
      have q3 := HB3.out.cell 3
      go_wp2_with fail
      refine (gmay_any gb bm c M n _ H3.out HC.out).mono ?_
      rintro e w4 ⟨rfl, hf4⟩
      have H4 := Lib.hid (H3.out.fr0 hf4)
      have HF4 := Lib.hid (HF3.out.trans0 hf4)
      have HB4 := Lib.hid (HB3.out.fr hf4 fun h => h)
      clear hf4 H3 HF3 HB3 q0 q1 q2 q3
      cases hp : mayP c M n with
      | false =>
        have HR : Hid (enterC c M x n = 170 ∧ enterM c M x n = M) := by
          have : enterC c M x n = 170 ∧ enterM c M x n = M := by unfold enterC enterM; rw [HH.out, HMY.out, hp]; simp
          exact this
        clear hp
        go_wp2_with fail
        go_ret
        rw [HR.out.1, HR.out.2]
        exact ⟨rfl, H4.out, HF4.out.of_nil⟩
      | true =>
        have HR : Hid (enterC c M x n = 0 ∧ enterM c M x n = M ++ [(x, n)]) := by
          have : enterC c M x n = 0 ∧ enterM c M x n = M ++ [(x, n)] := by unfold enterC enterM; rw [HH.out, HMY.out, hp]; simp
          exact this
        clear hp
        go_wp2_with fail
        have q0 := fun p : FrW w4 => p.cell (HB4.out.cell 0)
        have q1 := fun p : FrW w4 => p.cell (HB4.out.cell 1)
        have q2 := fun p : FrW w4 => p.cell (HB4.out.cell 2)
        have q3 := fun p : FrW w4 => p.cell (HB4.out.cell 3)
        have q4 := fun p : FrW w4 => p.cell (H4.out.1.cell 3)
        have hcl : ∀ p : FrW w4, ∃ q : FrW w4, p.to = q.to := fun p => ⟨p, rfl⟩
        refine wp_region_tail 6 (by kernel_rfl) (by kernel_rfl) ?_
        simp only [List.take_succ_cons, List.take_zero, List.drop_succ_cons, List.drop_zero]
        iterate 6 go_big_quiet_step (fail)
        refine wpQuiet_nil ?_
        intro _ hw'
        obtain ⟨p, hw''⟩ := hw'
        subst hw''
        have H5 := Lib.hid (H4.out.fr0 p.fr)
        have HF5 := Lib.hid (HF4.out.trans0 p.fr)
        generalize p.to = w5 at *
        clear q0 q1 q2 q3 q4 hcl HB4 H4 HF4
        go_wp2_with (at_mapUpdate; refine wpList_map_set _ rfl _ _ _ 54 rfl 2 27 Try.keyI64 Try.underlying54 intKey bm M (by have := HL.out; unfold maxLen; omega) rfl H5.out.2 _ x rfl (keyOf_int_mk Try.underlying2 HX.out) n rfl ?_; intro w6 hm6 hf6)
        have HM6 : Hid (GMap w6 bm (M ++ [(x, n)])) := by
          have : GMap w6 bm (M ++ [(x, n)]) := by
            rw [show (M.filter fun p => !decide (p.1 = x)) = M from filter_none HH.out] at hm6
            exact hm6
          exact this
        have HB6 := Lib.hid (H5.out.1.fr hf6 HNE.out)
        have HF6 := Lib.hid (Fr.trans (S := fun k => k = bm) HF5.out.of_nil hf6 fun j hj h => h)
        clear hm6 hf6
        go_wp2_with fail
        go_ret
        rw [HR.out.1, HR.out.2]
        exact ⟨rfl, ⟨HB6.out, HM6.out⟩, HF6.out⟩

set_option maxRecDepth 100000 in
set_option maxHeartbeats 2000000 in
theorem gleave_any (gb bm : Nat) (c : CapD) (M : List (Int × Nd)) (x : Int) (w : World) (h : GateAt w gb bm c M) (hx : (Lit.int .i64 x).wf = true) :
    Calls Try.prog 13 #[.pointer (some ⟨gb, 0, none⟩), .int .i64 x] w fun e w' => e = .returned (.int .i64 (leaveC M x)) ∧ GateAt w' gb bm c (leaveM M x) ∧ Fr w w' (fun k => k = bm) := by
  have H := Lib.hid h
  have HX := Lib.hid hx
  have HNE := Lib.hid h.ne
  have q3 := H.out.1.cell 3
  clear h hx
  obtain ⟨g1, g2, g3, g4, hgv⟩ : ∃ g1 g2 g3 g4, getV M x zeroN = ⟨g1, g2, g3, g4⟩ := ⟨_, _, _, _, rfl⟩
  have HG := Lib.hid hgv
  clear hgv
  have hf1 : Fr w (w.alloc (.cells #[.int .i64 g1, .bool g2, .int .i64 g3, .int .i64 g4] 27)) Nil := (Fr.refl w Nil).alloc _
  have H1 := Lib.hid (H.out.fr0 hf1)
  have HF1 := Lib.hid hf1
  have q4 := H1.out.1.cell 3
  clear hf1
  cases hh : hasK M x with
  | false =>
    have HR : Hid (leaveC M x = 5 ∧ leaveM M x = M) := by
      have : leaveC M x = 5 ∧ leaveM M x = M := ⟨by unfold leaveC; rw [hh]; rfl, leave_none hh⟩
      exact this
    have HH := Lib.hid hh
    clear hh
    go_enter Try.func13, Try.ntmps13
    go_wp2_with (at_lookup; refine wpList_map_lookb _ rfl _ _ 54 rfl 2 27 Try.keyI64 Try.underlying54 (z := zeroN) (zeroNeed _) intKey bm M rfl H.out.2 _ x rfl (keyOf_int_mk Try.underlying2 HX.out) ⟨g1, g2, g3, g4⟩ HG.out false HH.out ?_)
    go_ret
    rw [HR.out.1, HR.out.2]
    exact ⟨rfl, H1.out, HF1.out.of_nil⟩
  | true =>
    have HR : Hid (leaveC M x = 0) := by
      have : leaveC M x = 0 := by unfold leaveC; rw [hh]; rfl
      exact this
    have HH := Lib.hid hh
    clear hh
    go_enter Try.func13, Try.ntmps13
    go_wp2_with (first | (at_lookup; refine wpList_map_lookb _ rfl _ _ 54 rfl 2 27 Try.keyI64 Try.underlying54 (z := zeroN) (zeroNeed _) intKey bm M rfl H.out.2 _ x rfl (keyOf_int_mk Try.underlying2 HX.out) ⟨g1, g2, g3, g4⟩ HG.out true HH.out ?_) | (at_delete; refine wpList_map_del _ rfl _ _ 54 2 rfl 27 Try.keyI64 Try.underlying54 intKey bm M rfl H1.out.2 _ x rfl (keyOf_int_mk Try.underlying2 HX.out) ?_; intro w6 hm6 hf6))
    have HM6 : Hid (GMap w6 bm (leaveM M x)) := by
      have : GMap w6 bm (leaveM M x) := hm6
      exact this
    have HB6 := Lib.hid (H1.out.1.fr hf6 HNE.out)
    have HF6 := Lib.hid (Fr.trans (S := fun k => k = bm) HF1.out.of_nil hf6 fun j hj h => h)
    clear hm6 hf6 q3 q4
    go_wp2_with fail
    go_ret
    rw [HR.out]
    exact ⟨rfl, ⟨HB6.out, HM6.out⟩, HF6.out⟩
end Go.Proofs.Ytplebgcgoigigaa
