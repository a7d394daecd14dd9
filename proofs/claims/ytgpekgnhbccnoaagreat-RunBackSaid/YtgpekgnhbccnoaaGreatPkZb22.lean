/-
  Walk of one: is an instruction right?
  No condition but sizes.
  Walk of Right: are instructions right?
  No condition but sizes.
-/
import Derived.Test.YtgpekgnhbccnoaaGreatPkZb21
import Derived.Deep.QuietTactic
import Derived.Deep.Cut
import Derived.Deep.CutRange
import Derived.Test.YtgpekgnhbccnoaaGreatPkZb15
import Derived.Test.YtgpekgnhbccnoaaGreatPkZb19
import Derived.Test.YtgpekgnhbccnoaaGreatPkZb18
namespace Go.Proofs.YtgpekgnhbccnoaaGreat
open Go Go.RowKit
attribute [local go_sem ↓] Go.wp_at_zero Go.wp_at_succ

def inB (i n : Int) : Bool := decide (0 ≤ i) && decide (i < n)
set_option maxRecDepth 100000 in
set_option maxHeartbeats 400000 in
theorem in_any (i n : Int) (w : World) : Calls Tryz.prog 107 #[.int .i64 i, .int .i64 n] w fun e w' => e = .returned (.bool (inB i n)) ∧ w' = w := by
  by_cases h0 : 0 ≤ i
  · have HE : Hid (inB i n = decide (i < n)) := by
      have : inB i n = decide (i < n) := by unfold inB; simp [h0]
      exact this
    go_enter Tryz.func107, Tryz.ntmps107
    go_wp2_with fail
    go_ret
    exact ⟨by rw [HE.out]; rfl, rfl⟩
  · have HE : Hid (inB i n = false) := by
      have : inB i n = false := by unfold inB; simp [h0]
      exact this
    go_enter Tryz.func107, Tryz.ntmps107
    go_wp2_with fail
    go_ret
    exact ⟨by rw [HE.out]; rfl, rfl⟩
theorem in_of (i n : Int) (w : World) (b : Bool) (h : inB i n = b) : Calls Tryz.prog 107 #[.int .i64 i, .int .i64 n] w fun e w' => e = .returned (.bool b) ∧ w' = w := by
  subst h
  exact in_any i n w
theorem two_new (w : World) (t : TypeId) (A B : Array Value) : Bk ((w.alloc (.cells A t)).alloc (.cells B t)) w.heap.size t A.toList ∧ Bk ((w.alloc (.cells A t)).alloc (.cells B t)) (w.heap.size + 1) t B.toList := by
  refine ⟨(Bk.new w t A).alloc _, ?_⟩
  have := Bk.new (w.alloc (.cells A t)) t B
  rwa [World.size_alloc] at this
theorem vals_one {w : World} {v : Value} {t : List TermD} (h : TermsAt w v t) (e : TypeId) : ValsAt (w.alloc (.cells #[v] e)) (.slice (some ⟨w.heap.size, 0, none⟩) 1 1) [t] := by
  refine ⟨_, 1, rfl, .inr ⟨w.heap.size, 0, rfl, fun i u hu => ?_⟩⟩
  cases i with
  | zero =>
    simp at hu
    subst hu
    exact ⟨v, (Bk.new w e #[v]).cell 0, h.fr0 ((Fr.refl w Nil).alloc _)⟩
  | succ i => simp at hu
def BareOk (n : InstrD) : Prop := (1 ≤ n.op ∧ n.op ≤ 16) ∧ NoneP (bareI n)
def OneRet (TB : List Int) (nv size : Nat) (n : InstrD) (w : World) (e : Ending) (w' : World) : Prop := ∃ b, e = .returned (.bool b) ∧ (b = true ↔ OneP TB nv size n) ∧ Fr w w' Nil
theorem bareok_iff {n : InstrD} (h1 : 1 ≤ n.op) (h2 : n.op ≤ 16) : NoneP (bareI n) ↔ BareP n := (bare_iff h1 h2).symm
set_option maxRecDepth 100000 in
set_option maxHeartbeats 40000000 in
theorem one_any (n : InstrD) (kv vv tv : Value) (TB : List Int) (nv size : Nat) (w : World) (hk : TermsAt w kv n.key) (hv : ValsAt w vv n.vals) (ht : IntsAt w tv TB) (hfk : n.key.length ≤ 100000) (hfv : FewT n.vals) (hnv : nv ≤ 1000000) (hTB : TB.length ≤ 1000000) :
    Calls Tryz.prog 79 #[n.val kv vv, tv, .int .i64 nv, .int .i64 size] w (OneRet TB nv size n w) := by
  obtain ⟨op, node, mode, tab, row, col, var, dst, eq, fro, upto, key, vals⟩ := n
  simp only at hk hv hfk hfv
  obtain ⟨ka, kc, rfl⟩ := hk.shape
  obtain ⟨va, vc, rfl⟩ := hv.shape
  obtain ⟨ta, tc, rfl⟩ := ht.shape
  simp only [InstrD.val]
  have HT := Lib.hid ht
  have HFV := Lib.hid hfv
  obtain ⟨w1, hw1⟩ : ∃ w1, w1 = w.alloc (.cells #[.int .u8 op, .int .i64 node, .int .u8 mode, .int .i64 tab, .bool row, .int .i64 col, .int .i64 var, .int .i64 dst, .bool eq, .int .i64 fro, .int .i64 upto, .slice ka key.length kc, .slice va vals.length vc] 81) := ⟨_, rfl⟩
  have HF1 : Hid (Fr w w1 Nil) := by rw [hw1]; exact Lib.hid ((Fr.refl w Nil).alloc _)
  have HB1 : Hid (Bk w1 w.heap.size 81 (InstrD.cs ⟨op, node, mode, tab, row, col, var, dst, eq, fro, upto, key, vals⟩ (.slice ka key.length kc) (.slice va vals.length vc))) := by rw [hw1]; exact Lib.hid (Bk.new w _ _)
  have HK := Lib.hid (hk.fr0 HF1.out)
  have HV := Lib.hid (hv.fr0 HF1.out)
  have HO : Hid (OneP TB nv size ⟨op, node, mode, tab, row, col, var, dst, eq, fro, upto, key, vals⟩ ↔ OneP TB nv size ⟨op, node, mode, tab, row, col, var, dst, eq, fro, upto, key, vals⟩) := Lib.hid Iff.rfl
  clear hk hv ht hfv
  go_enter Tryz.func79, Tryz.ntmps79
  go_upto_region 2 with (fail)
  rw [← hw1]
  have HW1 := Lib.hid hw1
  clear hw1
  go_cut [28] from 10 to 28 (fun v28 wx => ∃ b, v28 = .bool b ∧ (b = false ↔ BareOk ⟨op, node, mode, tab, row, col, var, dst, eq, fro, upto, key, vals⟩) ∧ Fr w1 wx Nil)
  case first =>
    have b0 := HB1.out.cell 0
    simp only [InstrD.cs, List.getElem?_cons_zero] at b0
    have k0 := KeptF.cell b0
    by_cases h1 : op < 1
    · have d1 := decide_eq_true h1
      have HX : Hid (¬ BareOk ⟨op, node, mode, tab, row, col, var, dst, eq, fro, upto, key, vals⟩) := fun h => by have := h.1.1; simp only at this; omega
      refine wp_region_sink 18 (KeptF w1) (by kernel_rfl) ?_
      have hSa : KeptF w1 w1.drew := KeptF.start _
      refine wpAnyS_take (i := 0) (v := ?_) rfl (by kernel_rfl) (fun _ _ _ h => h) (by rfl) hSa ?_ ?_
      rotate_left
      · intro w' hS'
        (try dsimp only at hS')
        go_simp <;> with_reducible rfl
      try simp only [Act.put, List.setIfInBounds_toArray, List.set_cons_zero, List.set_cons_succ]
      refine wpAnyS_take (i := 1) (v := ?_) rfl (by kernel_rfl) (fun _ _ _ h => h) (by rfl) hSa ?_ ?_
      rotate_left
      · intro w' hS'
        have ck0 := k0 _ hS'
        go_simp <;> with_reducible rfl
      try simp only [Act.put, List.setIfInBounds_toArray, List.set_cons_zero, List.set_cons_succ]
      refine wpAnyS_take (i := 2) (v := ?_) rfl (by kernel_rfl) (fun _ _ _ h => h) (by rfl) hSa ?_ ?_
      rotate_left
      · intro w' hS'
        (try dsimp only at hS')
        go_simp <;> with_reducible rfl
      try simp only [Act.put, List.setIfInBounds_toArray, List.set_cons_zero, List.set_cons_succ]
      refine wpAnyS_take (i := 3) (v := ?_) rfl (by kernel_rfl) (fun _ _ _ h => h) (by rfl) hSa ?_ ?_
      rotate_left
      · intro w' hS'
        (try dsimp only at hS')
        go_simp <;> with_reducible rfl
      try simp only [Act.put, List.setIfInBounds_toArray, List.set_cons_zero, List.set_cons_succ]
      refine wpAnyS_skip (i := 4) rfl (by kernel_rfl) (fun _ _ _ h => h) (by rfl) hSa ?_
      try simp only [Act.put, List.setIfInBounds_toArray, List.set_cons_zero, List.set_cons_succ]
      refine wpAnyS_skip (i := 5) rfl (by kernel_rfl) (fun _ _ _ h => h) (by rfl) hSa ?_
      try simp only [Act.put, List.setIfInBounds_toArray, List.set_cons_zero, List.set_cons_succ]
      refine wpAnyS_skip (i := 6) rfl (by kernel_rfl) (fun _ _ _ h => h) (by rfl) hSa ?_
      try simp only [Act.put, List.setIfInBounds_toArray, List.set_cons_zero, List.set_cons_succ]
      refine wpAnyS_take (i := 7) (v := ?_) rfl (by kernel_rfl) (fun _ _ _ h => h) (by rfl) hSa ?_ ?_
      rotate_left
      · intro w' hS'
        (try dsimp only at hS')
        go_simp <;> with_reducible rfl
      try simp only [Act.put, List.setIfInBounds_toArray, List.set_cons_zero, List.set_cons_succ]
      refine wpAnyS_take (i := 8) (v := ?_) rfl (by kernel_rfl) (fun _ _ _ h => h) (by rfl) hSa ?_ ?_
      rotate_left
      · intro w' hS'
        (try dsimp only at hS')
        go_simp <;> with_reducible rfl
      try simp only [Act.put, List.setIfInBounds_toArray, List.set_cons_zero, List.set_cons_succ]
      refine wpAnyS_skip (i := 9) rfl (by kernel_rfl) (fun _ _ _ h => h) (by rfl) hSa ?_
      try simp only [Act.put, List.setIfInBounds_toArray, List.set_cons_zero, List.set_cons_succ]
      refine wpAnyS_skip (i := 10) rfl (by kernel_rfl) (fun _ _ _ h => h) (by rfl) hSa ?_
      try simp only [Act.put, List.setIfInBounds_toArray, List.set_cons_zero, List.set_cons_succ]
      refine wpAnyS_skip (i := 11) rfl (by kernel_rfl) (fun _ _ _ h => h) (by rfl) hSa ?_
      try simp only [Act.put, List.setIfInBounds_toArray, List.set_cons_zero, List.set_cons_succ]
      refine wpAnyS_skip (i := 12) rfl (by kernel_rfl) (fun _ _ _ h => h) (by rfl) hSa ?_
      try simp only [Act.put, List.setIfInBounds_toArray, List.set_cons_zero, List.set_cons_succ]
      refine wpAnyS_skip (i := 13) rfl (by kernel_rfl) (fun _ _ _ h => h) (by rfl) hSa ?_
      try simp only [Act.put, List.setIfInBounds_toArray, List.set_cons_zero, List.set_cons_succ]
      refine wpAnyS_skip (i := 14) rfl (by kernel_rfl) (fun _ _ _ h => h) (by rfl) hSa ?_
      try simp only [Act.put, List.setIfInBounds_toArray, List.set_cons_zero, List.set_cons_succ]
      refine wpAnyS_skip (i := 15) rfl (by kernel_rfl) (fun _ _ _ h => h) (by rfl) hSa ?_
      try simp only [Act.put, List.setIfInBounds_toArray, List.set_cons_zero, List.set_cons_succ]
      refine wpAnyS_skip (i := 16) rfl (by kernel_rfl) (fun _ _ _ h => h) (by rfl) hSa ?_
      try simp only [Act.put, List.setIfInBounds_toArray, List.set_cons_zero, List.set_cons_succ]
      refine wpAnyS_skip (i := 17) rfl (by kernel_rfl) (fun _ _ _ h => h) (by rfl) hSa ?_
      try simp only [Act.put, List.setIfInBounds_toArray, List.set_cons_zero, List.set_cons_succ]
      refine wpAnyS_last (i := 18) rfl (by kernel_rfl) (by decide) (by kernel_rfl) (by rfl) fun K hK => ?_
      go_simp
      refine hK.out _ _ ?_
      clear hK K
      have HF := Lib.hid hSa.fr
      clear hSa k0 b0 d1
      go_wp2_with fail
      go_meet
      case rel => exact ⟨true, rfl, ⟨fun h => Bool.noConfusion h, fun h => (HX.out h).elim⟩, HF.out⟩
    · by_cases h2 : 16 < op
      · have d1 : decide (op < 1) = false := decide_eq_false h1
        have d2 := decide_eq_true h2
        have HX : Hid (¬ BareOk ⟨op, node, mode, tab, row, col, var, dst, eq, fro, upto, key, vals⟩) := fun h => by have := h.1.2; simp only at this; omega
        refine wp_region_sink 18 (KeptF w1) (by kernel_rfl) ?_
        have hSa : KeptF w1 w1.drew := KeptF.start _
        refine wpAnyS_take (i := 0) (v := ?_) rfl (by kernel_rfl) (fun _ _ _ h => h) (by rfl) hSa ?_ ?_
        rotate_left
        · intro w' hS'
          (try dsimp only at hS')
          go_simp <;> with_reducible rfl
        try simp only [Act.put, List.setIfInBounds_toArray, List.set_cons_zero, List.set_cons_succ]
        refine wpAnyS_take (i := 1) (v := ?_) rfl (by kernel_rfl) (fun _ _ _ h => h) (by rfl) hSa ?_ ?_
        rotate_left
        · intro w' hS'
          have ck0 := k0 _ hS'
          go_simp <;> with_reducible rfl
        try simp only [Act.put, List.setIfInBounds_toArray, List.set_cons_zero, List.set_cons_succ]
        refine wpAnyS_take (i := 2) (v := ?_) rfl (by kernel_rfl) (fun _ _ _ h => h) (by rfl) hSa ?_ ?_
        rotate_left
        · intro w' hS'
          (try dsimp only at hS')
          go_simp <;> with_reducible rfl
        try simp only [Act.put, List.setIfInBounds_toArray, List.set_cons_zero, List.set_cons_succ]
        refine wpAnyS_take (i := 3) (v := ?_) rfl (by kernel_rfl) (fun _ _ _ h => h) (by rfl) hSa ?_ ?_
        rotate_left
        · intro w' hS'
          (try dsimp only at hS')
          go_simp <;> with_reducible rfl
        try simp only [Act.put, List.setIfInBounds_toArray, List.set_cons_zero, List.set_cons_succ]
        refine wpAnyS_take (i := 4) (v := ?_) rfl (by kernel_rfl) (fun _ _ _ h => h) (by rfl) hSa ?_ ?_
        rotate_left
        · intro w' hS'
          (try dsimp only at hS')
          go_simp <;> with_reducible rfl
        try simp only [Act.put, List.setIfInBounds_toArray, List.set_cons_zero, List.set_cons_succ]
        refine wpAnyS_take (i := 5) (v := ?_) rfl (by kernel_rfl) (fun _ _ _ h => h) (by rfl) hSa ?_ ?_
        rotate_left
        · intro w' hS'
          have ck0 := k0 _ hS'
          go_simp <;> with_reducible rfl
        try simp only [Act.put, List.setIfInBounds_toArray, List.set_cons_zero, List.set_cons_succ]
        refine wpAnyS_take (i := 6) (v := ?_) rfl (by kernel_rfl) (fun _ _ _ h => h) (by rfl) hSa ?_ ?_
        rotate_left
        · intro w' hS'
          (try dsimp only at hS')
          go_simp <;> with_reducible rfl
        try simp only [Act.put, List.setIfInBounds_toArray, List.set_cons_zero, List.set_cons_succ]
        refine wpAnyS_take (i := 7) (v := ?_) rfl (by kernel_rfl) (fun _ _ _ h => h) (by rfl) hSa ?_ ?_
        rotate_left
        · intro w' hS'
          (try dsimp only at hS')
          go_simp <;> with_reducible rfl
        try simp only [Act.put, List.setIfInBounds_toArray, List.set_cons_zero, List.set_cons_succ]
        refine wpAnyS_take (i := 8) (v := ?_) rfl (by kernel_rfl) (fun _ _ _ h => h) (by rfl) hSa ?_ ?_
        rotate_left
        · intro w' hS'
          (try dsimp only at hS')
          go_simp <;> with_reducible rfl
        try simp only [Act.put, List.setIfInBounds_toArray, List.set_cons_zero, List.set_cons_succ]
        refine wpAnyS_skip (i := 9) rfl (by kernel_rfl) (fun _ _ _ h => h) (by rfl) hSa ?_
        try simp only [Act.put, List.setIfInBounds_toArray, List.set_cons_zero, List.set_cons_succ]
        refine wpAnyS_skip (i := 10) rfl (by kernel_rfl) (fun _ _ _ h => h) (by rfl) hSa ?_
        try simp only [Act.put, List.setIfInBounds_toArray, List.set_cons_zero, List.set_cons_succ]
        refine wpAnyS_skip (i := 11) rfl (by kernel_rfl) (fun _ _ _ h => h) (by rfl) hSa ?_
        try simp only [Act.put, List.setIfInBounds_toArray, List.set_cons_zero, List.set_cons_succ]
        refine wpAnyS_skip (i := 12) rfl (by kernel_rfl) (fun _ _ _ h => h) (by rfl) hSa ?_
        try simp only [Act.put, List.setIfInBounds_toArray, List.set_cons_zero, List.set_cons_succ]
        refine wpAnyS_skip (i := 13) rfl (by kernel_rfl) (fun _ _ _ h => h) (by rfl) hSa ?_
        try simp only [Act.put, List.setIfInBounds_toArray, List.set_cons_zero, List.set_cons_succ]
        refine wpAnyS_skip (i := 14) rfl (by kernel_rfl) (fun _ _ _ h => h) (by rfl) hSa ?_
        try simp only [Act.put, List.setIfInBounds_toArray, List.set_cons_zero, List.set_cons_succ]
        refine wpAnyS_skip (i := 15) rfl (by kernel_rfl) (fun _ _ _ h => h) (by rfl) hSa ?_
        try simp only [Act.put, List.setIfInBounds_toArray, List.set_cons_zero, List.set_cons_succ]
        refine wpAnyS_skip (i := 16) rfl (by kernel_rfl) (fun _ _ _ h => h) (by rfl) hSa ?_
        try simp only [Act.put, List.setIfInBounds_toArray, List.set_cons_zero, List.set_cons_succ]
        refine wpAnyS_skip (i := 17) rfl (by kernel_rfl) (fun _ _ _ h => h) (by rfl) hSa ?_
        try simp only [Act.put, List.setIfInBounds_toArray, List.set_cons_zero, List.set_cons_succ]
        refine wpAnyS_last (i := 18) rfl (by kernel_rfl) (by decide) (by kernel_rfl) (by rfl) fun K hK => ?_
        go_simp
        refine hK.out _ _ ?_
        clear hK K
        have HF := Lib.hid hSa.fr
        clear hSa k0 b0 d1
        go_wp2_with fail
        go_meet
        case rel => exact ⟨true, rfl, ⟨fun h => Bool.noConfusion h, fun h => (HX.out h).elim⟩, HF.out⟩
      · have d1 : decide (op < 1) = false := decide_eq_false h1
        have d2 : decide (16 < op) = false := decide_eq_false h2
        have h1 : 1 ≤ op := by omega
        have h2 : op ≤ 16 := by omega
        obtain ⟨mka, mkc, hmk⟩ := (bareK_at (n := ⟨op, node, mode, tab, row, col, var, dst, eq, fro, upto, key, vals⟩) HK.out).shape
        obtain ⟨mva, mvc, hmv⟩ := (bareV_at (n := ⟨op, node, mode, tab, row, col, var, dst, eq, fro, upto, key, vals⟩) HV.out).shape
        have hmo : (bareI ⟨op, node, mode, tab, row, col, var, dst, eq, fro, upto, key, vals⟩).op = op := rfl
        have HD : Hid (∀ d, d = decide (NoneP (bareI ⟨op, node, mode, tab, row, col, var, dst, eq, fro, upto, key, vals⟩)) → (d = true ↔ BareOk ⟨op, node, mode, tab, row, col, var, dst, eq, fro, upto, key, vals⟩)) := fun d hd => by rw [hd, decide_eq_true_iff]; exact ⟨fun h => ⟨⟨h1, h2⟩, h⟩, fun h => h.2⟩
        have HM : Hid (∀ e W W', BareRet ⟨op, node, mode, tab, row, col, var, dst, eq, fro, upto, key, vals⟩ (.slice ka key.length kc) (.slice va vals.length vc) W e W' → e = .returned ((bareI ⟨op, node, mode, tab, row, col, var, dst, eq, fro, upto, key, vals⟩).val (.slice mka (bareI ⟨op, node, mode, tab, row, col, var, dst, eq, fro, upto, key, vals⟩).key.length mkc) (.slice mva (bareI ⟨op, node, mode, tab, row, col, var, dst, eq, fro, upto, key, vals⟩).vals.length mvc)) ∧ Fr W W' Nil) := fun e W W' h => ⟨by rw [h.1, hmk, hmv], h.2⟩
        clear hmk hmv
        have HD := HD.out _ rfl
        have HM := HM.out
        generalize bareI ⟨op, node, mode, tab, row, col, var, dst, eq, fro, upto, key, vals⟩ = m at HD HM hmo
        obtain ⟨mop, mnode, mmode, mtab, mrow, mcol, mvar, mdst, meq, mfro, mupto, mkey, mvals⟩ := m
        simp only at hmo HM
        obtain rfl : op = mop := hmo.symm
        simp only [InstrD.val] at HM
        have HM := Lib.hid HM
        have k1 := KeptF.cell (w0 := w1) (show w1.cell? ⟨w.heap.size, 1, none⟩ = some _ from HB1.out.cell 1)
        have k2 := KeptF.cell (w0 := w1) (show w1.cell? ⟨w.heap.size, 2, none⟩ = some _ from HB1.out.cell 2)
        have k3 := KeptF.cell (w0 := w1) (show w1.cell? ⟨w.heap.size, 3, none⟩ = some _ from HB1.out.cell 3)
        have k4 := KeptF.cell (w0 := w1) (show w1.cell? ⟨w.heap.size, 4, none⟩ = some _ from HB1.out.cell 4)
        have k5 := KeptF.cell (w0 := w1) (show w1.cell? ⟨w.heap.size, 5, none⟩ = some _ from HB1.out.cell 5)
        have k6 := KeptF.cell (w0 := w1) (show w1.cell? ⟨w.heap.size, 6, none⟩ = some _ from HB1.out.cell 6)
        have k7 := KeptF.cell (w0 := w1) (show w1.cell? ⟨w.heap.size, 7, none⟩ = some _ from HB1.out.cell 7)
        have k8 := KeptF.cell (w0 := w1) (show w1.cell? ⟨w.heap.size, 8, none⟩ = some _ from HB1.out.cell 8)
        have k9 := KeptF.cell (w0 := w1) (show w1.cell? ⟨w.heap.size, 9, none⟩ = some _ from HB1.out.cell 9)
        have k10 := KeptF.cell (w0 := w1) (show w1.cell? ⟨w.heap.size, 10, none⟩ = some _ from HB1.out.cell 10)
        have k11 := KeptF.cell (w0 := w1) (show w1.cell? ⟨w.heap.size, 11, none⟩ = some _ from HB1.out.cell 11)
        have k12 := KeptF.cell (w0 := w1) (show w1.cell? ⟨w.heap.size, 12, none⟩ = some _ from HB1.out.cell 12)
        refine wp_region_sink 18 (KeptF w1) (by kernel_rfl) ?_
        have hSa : KeptF w1 w1.drew := KeptF.start _
        refine wpAnyS_take (i := 0) (v := ?_) rfl (by kernel_rfl) (fun _ _ _ h => h) (by rfl) hSa ?_ ?_
        rotate_left
        · intro w' hS'
          (try dsimp only at hS')
          go_simp <;> with_reducible rfl
        try simp only [Act.put, List.setIfInBounds_toArray, List.set_cons_zero, List.set_cons_succ]
        refine wpAnyS_take (i := 1) (v := ?_) rfl (by kernel_rfl) (fun _ _ _ h => h) (by rfl) hSa ?_ ?_
        rotate_left
        · intro w' hS'
          have ck0 := k0 _ hS'
          go_simp <;> with_reducible rfl
        try simp only [Act.put, List.setIfInBounds_toArray, List.set_cons_zero, List.set_cons_succ]
        refine wpAnyS_take (i := 2) (v := ?_) rfl (by kernel_rfl) (fun _ _ _ h => h) (by rfl) hSa ?_ ?_
        rotate_left
        · intro w' hS'
          (try dsimp only at hS')
          go_simp <;> with_reducible rfl
        try simp only [Act.put, List.setIfInBounds_toArray, List.set_cons_zero, List.set_cons_succ]
        refine wpAnyS_take (i := 3) (v := ?_) rfl (by kernel_rfl) (fun _ _ _ h => h) (by rfl) hSa ?_ ?_
        rotate_left
        · intro w' hS'
          (try dsimp only at hS')
          go_simp <;> with_reducible rfl
        try simp only [Act.put, List.setIfInBounds_toArray, List.set_cons_zero, List.set_cons_succ]
        refine wpAnyS_take (i := 4) (v := ?_) rfl (by kernel_rfl) (fun _ _ _ h => h) (by rfl) hSa ?_ ?_
        rotate_left
        · intro w' hS'
          (try dsimp only at hS')
          go_simp <;> with_reducible rfl
        try simp only [Act.put, List.setIfInBounds_toArray, List.set_cons_zero, List.set_cons_succ]
        refine wpAnyS_take (i := 5) (v := ?_) rfl (by kernel_rfl) (fun _ _ _ h => h) (by rfl) hSa ?_ ?_
        rotate_left
        · intro w' hS'
          have ck0 := k0 _ hS'
          go_simp <;> with_reducible rfl
        try simp only [Act.put, List.setIfInBounds_toArray, List.set_cons_zero, List.set_cons_succ]
        refine wpAnyS_take (i := 6) (v := ?_) rfl (by kernel_rfl) (fun _ _ _ h => h) (by rfl) hSa ?_ ?_
        rotate_left
        · intro w' hS'
          (try dsimp only at hS')
          go_simp <;> with_reducible rfl
        try simp only [Act.put, List.setIfInBounds_toArray, List.set_cons_zero, List.set_cons_succ]
        refine wpAnyS_take (i := 7) (v := ?_) rfl (by kernel_rfl) (fun _ _ _ h => h) (by rfl) hSa ?_ ?_
        rotate_left
        · intro w' hS'
          (try dsimp only at hS')
          go_simp <;> with_reducible rfl
        try simp only [Act.put, List.setIfInBounds_toArray, List.set_cons_zero, List.set_cons_succ]
        refine wpAnyS_take (i := 8) (v := ?_) rfl (by kernel_rfl) (fun _ _ _ h => h) (by rfl) hSa ?_ ?_
        rotate_left
        · intro w' hS'
          (try dsimp only at hS')
          go_simp <;> with_reducible rfl
        try simp only [Act.put, List.setIfInBounds_toArray, List.set_cons_zero, List.set_cons_succ]
        refine wpAnyS_take (i := 9) (v := ?_) rfl (by kernel_rfl) (fun _ _ _ h => h) (by rfl) hSa ?_ ?_
        rotate_left
        · intro w' hS'
          have ck0 := k0 _ hS'
          have ck1 := k1 _ hS'
          have ck2 := k2 _ hS'
          have ck3 := k3 _ hS'
          have ck4 := k4 _ hS'
          have ck5 := k5 _ hS'
          have ck6 := k6 _ hS'
          have ck7 := k7 _ hS'
          have ck8 := k8 _ hS'
          have ck9 := k9 _ hS'
          have ck10 := k10 _ hS'
          have ck11 := k11 _ hS'
          have ck12 := k12 _ hS'
          go_simp <;> with_reducible rfl
        try simp only [Act.put, List.setIfInBounds_toArray, List.set_cons_zero, List.set_cons_succ]
        refine wpAnyS_take (i := 12) (v := ?_) rfl (by kernel_rfl) (fun _ _ _ h => h) (by rfl) hSa ?_ ?_
        rotate_left
        · intro w' hS'
          (try dsimp only at hS')
          go_simp <;> with_reducible rfl
        try simp only [Act.put, List.setIfInBounds_toArray, List.set_cons_zero, List.set_cons_succ]
        refine wpAnyS_take (i := 13) (v := ?_) rfl (by kernel_rfl) (fun _ _ _ h => h) (by rfl) hSa ?_ ?_
        rotate_left
        · intro w' hS'
          have ck0 := k0 _ hS'
          go_simp <;> with_reducible rfl
        try simp only [Act.put, List.setIfInBounds_toArray, List.set_cons_zero, List.set_cons_succ]
        refine wpAnyS_take (i := 14) (v := ?_) rfl (by kernel_rfl) (fun _ _ _ h => h) (by rfl) hSa ?_ ?_
        rotate_left
        · intro w' hS'
          (try dsimp only at hS')
          go_simp <;> with_reducible rfl
        try simp only [Act.put, List.setIfInBounds_toArray, List.set_cons_zero, List.set_cons_succ]
        refine wpAnyS_two (i := 10) (j := 15) rfl rfl (by kernel_rfl) (by decide) (by decide) (by rfl) (by rfl) (fun K hK => ?_) (fun K hK => ?_)
        · go_simp
          refine (bare_any ⟨op, node, mode, tab, row, col, var, dst, eq, fro, upto, key, vals⟩ _ _ _ h1 h2 (HK.out.fr0 (KeptF.fr hSa)) (HV.out.fr0 (KeptF.fr hSa))).mono ?_
          intro e w2 hbr
          obtain ⟨rfl, hf2⟩ := HM.out _ _ _ hbr
          clear hbr
          have hSb := KeptF.next hSa hf2
          refine hK.out _ _ hSb ?_
          clear hK K
          try simp only [Act.put, List.setIfInBounds_toArray, List.set_cons_zero, List.set_cons_succ]
          refine wpAnyS_two (i := 11) (j := 15) rfl rfl (by kernel_rfl) (by decide) (by decide) (by rfl) (by rfl) (fun K hK => ?_) (fun K hK => ?_)
          · go_simp
            have hSc := KeptF.next hSb ((Fr.refl w2 Nil).alloc (.cells #[.int .u8 op, .int .i64 mnode, .int .u8 mmode, .int .i64 mtab, .bool mrow, .int .i64 mcol, .int .i64 mvar, .int .i64 mdst, .bool meq, .int .i64 mfro, .int .i64 mupto, .slice mka mkey.length mkc, .slice mva mvals.length mvc] 81))
            refine hK.out _ _ hSc ?_
            clear hK K
            try simp only [Act.put, List.setIfInBounds_toArray, List.set_cons_zero, List.set_cons_succ]
            refine wpAnyS_one (i := 15) rfl (by kernel_rfl) (by decide) (by rfl) fun K hK => ?_
            go_simp
            have hSd := KeptF.next hSc ((Fr.refl _ Nil).alloc (.cells #[.int .u8 op, .int .i64 0, .int .u8 0, .int .i64 0, .bool false, .int .i64 0, .int .i64 0, .int .i64 0, .bool false, .int .i64 0, .int .i64 0, .slice none 0 0, .slice none 0 0] 81))
            refine hK.out _ _ hSd ?_
            clear hK K
            try simp only [Act.put, List.setIfInBounds_toArray, List.set_cons_zero, List.set_cons_succ]
            obtain ⟨ha, hb⟩ := two_new w2 81 #[.int .u8 op, .int .i64 mnode, .int .u8 mmode, .int .i64 mtab, .bool mrow, .int .i64 mcol, .int .i64 mvar, .int .i64 mdst, .bool meq, .int .i64 mfro, .int .i64 mupto, .slice mka mkey.length mkc, .slice mva mvals.length mvc] #[.int .u8 op, .int .i64 0, .int .u8 0, .int .i64 0, .bool false, .int .i64 0, .int .i64 0, .int .i64 0, .bool false, .int .i64 0, .int .i64 0, .slice none 0 0, .slice none 0 0]
            refine wpAnyS_one (i := 16) rfl (by kernel_rfl) (by decide) (by rfl) fun K hK => ?_
            go_simp
            refine (csame_any ⟨op, mnode, mmode, mtab, mrow, mcol, mvar, mdst, meq, mfro, mupto, mkey, mvals⟩ mka mva mkc mvc _ _ 1 1 _ ha hb).mono ?_
            rintro e w9 ⟨rfl, hf9⟩
            have hS9 := KeptF.next hSd hf9
            refine hK.out _ _ hS9 ?_
            clear hK K
            try simp only [Act.put, List.setIfInBounds_toArray, List.set_cons_zero, List.set_cons_succ]
            generalize decide (NoneP ⟨op, mnode, mmode, mtab, mrow, mcol, mvar, mdst, meq, mfro, mupto, mkey, mvals⟩) = d at HD ⊢
            refine wpAnyS_take (i := 17) (v := ?_) rfl (by kernel_rfl) (fun _ _ _ h => h) (by rfl) hS9 ?_ ?_
            rotate_left
            · intro w' hS'
              (try dsimp only at hS')
              go_simp <;> with_reducible rfl
            try simp only [Act.put, List.setIfInBounds_toArray, List.set_cons_zero, List.set_cons_succ]
            refine wpAnyS_last (i := 18) rfl (by kernel_rfl) (by decide) (by kernel_rfl) (by rfl) fun K hK => ?_
            go_simp
            refine hK.out _ _ ?_
            clear hK K
            have HF := Lib.hid (KeptF.fr hS9)
            have HD := Lib.hid HD
            clear k0 k1 k2 k3 k4 k5 k6 k7 k8 k9 k10 k11 k12 hS9 hSa d1 d2
            go_wp2_with fail
            go_meet
            case rel => exact ⟨!d, rfl, by rw [← HD.out]; cases d <;> simp, HF.out⟩
          · go_simp
            have hSc := KeptF.next hSb ((Fr.refl w2 Nil).alloc (.cells #[.int .u8 op, .int .i64 0, .int .u8 0, .int .i64 0, .bool false, .int .i64 0, .int .i64 0, .int .i64 0, .bool false, .int .i64 0, .int .i64 0, .slice none 0 0, .slice none 0 0] 81))
            refine hK.out _ _ hSc ?_
            clear hK K
            try simp only [Act.put, List.setIfInBounds_toArray, List.set_cons_zero, List.set_cons_succ]
            refine wpAnyS_one (i := 11) rfl (by kernel_rfl) (by decide) (by rfl) fun K hK => ?_
            go_simp
            have hSd := KeptF.next hSc ((Fr.refl _ Nil).alloc (.cells #[.int .u8 op, .int .i64 mnode, .int .u8 mmode, .int .i64 mtab, .bool mrow, .int .i64 mcol, .int .i64 mvar, .int .i64 mdst, .bool meq, .int .i64 mfro, .int .i64 mupto, .slice mka mkey.length mkc, .slice mva mvals.length mvc] 81))
            refine hK.out _ _ hSd ?_
            clear hK K
            try simp only [Act.put, List.setIfInBounds_toArray, List.set_cons_zero, List.set_cons_succ]
            obtain ⟨hb, ha⟩ := two_new w2 81 #[.int .u8 op, .int .i64 0, .int .u8 0, .int .i64 0, .bool false, .int .i64 0, .int .i64 0, .int .i64 0, .bool false, .int .i64 0, .int .i64 0, .slice none 0 0, .slice none 0 0] #[.int .u8 op, .int .i64 mnode, .int .u8 mmode, .int .i64 mtab, .bool mrow, .int .i64 mcol, .int .i64 mvar, .int .i64 mdst, .bool meq, .int .i64 mfro, .int .i64 mupto, .slice mka mkey.length mkc, .slice mva mvals.length mvc]
            refine wpAnyS_one (i := 16) rfl (by kernel_rfl) (by decide) (by rfl) fun K hK => ?_
            go_simp
            refine (csame_any ⟨op, mnode, mmode, mtab, mrow, mcol, mvar, mdst, meq, mfro, mupto, mkey, mvals⟩ mka mva mkc mvc _ _ 1 1 _ ha hb).mono ?_
            rintro e w9 ⟨rfl, hf9⟩
            have hS9 := KeptF.next hSd hf9
            refine hK.out _ _ hS9 ?_
            clear hK K
            try simp only [Act.put, List.setIfInBounds_toArray, List.set_cons_zero, List.set_cons_succ]
            generalize decide (NoneP ⟨op, mnode, mmode, mtab, mrow, mcol, mvar, mdst, meq, mfro, mupto, mkey, mvals⟩) = d at HD ⊢
            refine wpAnyS_take (i := 17) (v := ?_) rfl (by kernel_rfl) (fun _ _ _ h => h) (by rfl) hS9 ?_ ?_
            rotate_left
            · intro w' hS'
              (try dsimp only at hS')
              go_simp <;> with_reducible rfl
            try simp only [Act.put, List.setIfInBounds_toArray, List.set_cons_zero, List.set_cons_succ]
            refine wpAnyS_last (i := 18) rfl (by kernel_rfl) (by decide) (by kernel_rfl) (by rfl) fun K hK => ?_
            go_simp
            refine hK.out _ _ ?_
            clear hK K
            have HF := Lib.hid (KeptF.fr hS9)
            have HD := Lib.hid HD
            clear k0 k1 k2 k3 k4 k5 k6 k7 k8 k9 k10 k11 k12 hS9 hSa d1 d2
            go_wp2_with fail
            go_meet
            case rel => exact ⟨!d, rfl, by rw [← HD.out]; cases d <;> simp, HF.out⟩
        · go_simp
          have hSb := KeptF.next hSa ((Fr.refl w1.drew Nil).alloc (.cells #[.int .u8 op, .int .i64 0, .int .u8 0, .int .i64 0, .bool false, .int .i64 0, .int .i64 0, .int .i64 0, .bool false, .int .i64 0, .int .i64 0, .slice none 0 0, .slice none 0 0] 81))
          refine hK.out _ _ hSb ?_
          clear hK K
          try simp only [Act.put, List.setIfInBounds_toArray, List.set_cons_zero, List.set_cons_succ]
          have hb0 := Bk.new w1.drew 81 #[.int .u8 op, .int .i64 0, .int .u8 0, .int .i64 0, .bool false, .int .i64 0, .int .i64 0, .int .i64 0, .bool false, .int .i64 0, .int .i64 0, .slice none 0 0, .slice none 0 0]
          refine wpAnyS_one (i := 10) rfl (by kernel_rfl) (by decide) (by rfl) fun K hK => ?_
          go_simp
          refine (bare_any ⟨op, node, mode, tab, row, col, var, dst, eq, fro, upto, key, vals⟩ _ _ _ h1 h2 (HK.out.fr0 (KeptF.fr hSb)) (HV.out.fr0 (KeptF.fr hSb))).mono ?_
          intro e w2 hbr
          obtain ⟨rfl, hf2⟩ := HM.out _ _ _ hbr
          clear hbr
          have hSc := KeptF.next hSb hf2
          refine hK.out _ _ hSc ?_
          clear hK K
          try simp only [Act.put, List.setIfInBounds_toArray, List.set_cons_zero, List.set_cons_succ]
          have hb1 := hb0.fr hf2 (fun h => h)
          refine wpAnyS_one (i := 11) rfl (by kernel_rfl) (by decide) (by rfl) fun K hK => ?_
          go_simp
          have hSd := KeptF.next hSc ((Fr.refl w2 Nil).alloc (.cells #[.int .u8 op, .int .i64 mnode, .int .u8 mmode, .int .i64 mtab, .bool mrow, .int .i64 mcol, .int .i64 mvar, .int .i64 mdst, .bool meq, .int .i64 mfro, .int .i64 mupto, .slice mka mkey.length mkc, .slice mva mvals.length mvc] 81))
          refine hK.out _ _ hSd ?_
          clear hK K
          try simp only [Act.put, List.setIfInBounds_toArray, List.set_cons_zero, List.set_cons_succ]
          have ha := Bk.new w2 81 #[.int .u8 op, .int .i64 mnode, .int .u8 mmode, .int .i64 mtab, .bool mrow, .int .i64 mcol, .int .i64 mvar, .int .i64 mdst, .bool meq, .int .i64 mfro, .int .i64 mupto, .slice mka mkey.length mkc, .slice mva mvals.length mvc]
          have hb := hb1.alloc (.cells #[.int .u8 op, .int .i64 mnode, .int .u8 mmode, .int .i64 mtab, .bool mrow, .int .i64 mcol, .int .i64 mvar, .int .i64 mdst, .bool meq, .int .i64 mfro, .int .i64 mupto, .slice mka mkey.length mkc, .slice mva mvals.length mvc] 81)
          refine wpAnyS_one (i := 16) rfl (by kernel_rfl) (by decide) (by rfl) fun K hK => ?_
          go_simp
          refine (csame_any ⟨op, mnode, mmode, mtab, mrow, mcol, mvar, mdst, meq, mfro, mupto, mkey, mvals⟩ mka mva mkc mvc _ _ 1 1 _ ha hb).mono ?_
          rintro e w9 ⟨rfl, hf9⟩
          have hS9 := KeptF.next hSd hf9
          refine hK.out _ _ hS9 ?_
          clear hK K
          try simp only [Act.put, List.setIfInBounds_toArray, List.set_cons_zero, List.set_cons_succ]
          generalize decide (NoneP ⟨op, mnode, mmode, mtab, mrow, mcol, mvar, mdst, meq, mfro, mupto, mkey, mvals⟩) = d at HD ⊢
          refine wpAnyS_take (i := 17) (v := ?_) rfl (by kernel_rfl) (fun _ _ _ h => h) (by rfl) hS9 ?_ ?_
          rotate_left
          · intro w' hS'
            (try dsimp only at hS')
            go_simp <;> with_reducible rfl
          try simp only [Act.put, List.setIfInBounds_toArray, List.set_cons_zero, List.set_cons_succ]
          refine wpAnyS_last (i := 18) rfl (by kernel_rfl) (by decide) (by kernel_rfl) (by rfl) fun K hK => ?_
          go_simp
          refine hK.out _ _ ?_
          clear hK K
          have HF := Lib.hid (KeptF.fr hS9)
          have HD := Lib.hid HD
          clear k0 k1 k2 k3 k4 k5 k6 k7 k8 k9 k10 k11 k12 hS9 hSa d1 d2
          go_wp2_with fail
          go_meet
          case rel => exact ⟨!d, rfl, by rw [← HD.out]; cases d <;> simp, HF.out⟩
  case rest =>
    obtain ⟨b, rfl, hb, hf⟩ := hcut
    have HR2 := Lib.hid hb
    have HF2 := Lib.hid hf
    clear hb hf
    cases b
    rotate_left
    · go_wp2_with fail
      go_ret
      exact ⟨false, rfl, ⟨fun h => Bool.noConfusion h, fun h => Bool.noConfusion (HR2.out.2 ⟨h.op, (bareok_iff h.op.1 h.op.2).2 h.bare⟩)⟩, HF1.out.trans0 HF2.out⟩
    · have HBO := Lib.hid (HR2.out.1 rfl)
      have hop1 := HBO.out.1.1
      have hop2 := HBO.out.1.2
      simp only at hop1 hop2
      clear HR2
      go_upto_region 4 with (fail)
      go_cut [67] from 29 to 67 (fun v67 wx => ∃ b, v67 = .bool b ∧ (b = false ↔ TabP TB ⟨op, node, mode, tab, row, col, var, dst, eq, fro, upto, key, vals⟩ ∧ ColP TB ⟨op, node, mode, tab, row, col, var, dst, eq, fro, upto, key, vals⟩) ∧ Fr wc wx Nil)
      case first =>
        have c0 := (HB1.out.fr HF2.out fun h => h).cell 0
        have c3 := (HB1.out.fr HF2.out fun h => h).cell 3
        have c5 := (HB1.out.fr HF2.out fun h => h).cell 5
        simp only [InstrD.cs, List.getElem?_cons_zero, List.getElem?_cons_succ] at c0 c3 c5
        by_cases h7 : op ≤ 7
        rotate_left
        · have HX : Hid (TabP TB ⟨op, node, mode, tab, row, col, var, dst, eq, fro, upto, key, vals⟩ ∧ ColP TB ⟨op, node, mode, tab, row, col, var, dst, eq, fro, upto, key, vals⟩) := ⟨fun h => absurd h h7, fun h => absurd h (by simp only; omega)⟩
          have e7 : decide (op ≤ 7) = false := decide_eq_false h7
          have e3 : (op == 3) = false := by rw [beq_eq_false_iff_ne]; omega
          have e4 : (op == 4) = false := by rw [beq_eq_false_iff_ne]; omega
          have e77 : (op == 7) = false := by rw [beq_eq_false_iff_ne]; omega
          go_quiet (fail)
          rename_i nq
          go_wp2_with fail
          go_meet
          case rel => exact ⟨false, rfl, ⟨fun _ => HX.out, fun _ => rfl⟩, (Fr.refl wc Nil).drewN _⟩
        have e7 : decide (op ≤ 7) = true := decide_eq_true h7
        cases hin : inB tab TB.length
        · have HX : Hid (¬ (TabP TB ⟨op, node, mode, tab, row, col, var, dst, eq, fro, upto, key, vals⟩ ∧ ColP TB ⟨op, node, mode, tab, row, col, var, dst, eq, fro, upto, key, vals⟩)) := fun h => by have h := h.1 h7; unfold inB at hin; simp only at h; simp [h.1, h.2] at hin
          go_quiet ((first | (go_at_call 107; exact Calls.quiet_of_same (in_of _ _ _ false hin))))
          rename_i nq
          go_wp2_with fail
          go_meet
          case rel => exact ⟨true, rfl, ⟨fun h => Bool.noConfusion h, fun h => (HX.out h).elim⟩, (Fr.refl wc Nil).drewN _⟩
        have HIN := Lib.hid hin
        have htb : 0 ≤ tab ∧ tab < TB.length := by unfold inB at hin; simpa using hin
        obtain ⟨m, rfl⟩ : ∃ m : Nat, tab = (m : Int) := ⟨tab.toNat, by omega⟩
        have hm : m < TB.length := by omega
        have HTP : Hid (TabP TB ⟨op, node, mode, m, row, col, var, dst, eq, fro, upto, key, vals⟩) := fun _ => htb
        by_cases hc : op = 3 ∨ op = 4 ∨ op = 7
        rotate_left
        · have HX : Hid (TabP TB ⟨op, node, mode, m, row, col, var, dst, eq, fro, upto, key, vals⟩ ∧ ColP TB ⟨op, node, mode, m, row, col, var, dst, eq, fro, upto, key, vals⟩) := ⟨HTP.out, fun h => absurd h hc⟩
          have e3 : (op == 3) = false := by rw [beq_eq_false_iff_ne]; omega
          have e4 : (op == 4) = false := by rw [beq_eq_false_iff_ne]; omega
          have e77 : (op == 7) = false := by rw [beq_eq_false_iff_ne]; omega
          clear hc htb
          go_quiet ((first | (go_at_call 107; exact Calls.quiet_of_same (in_of _ _ _ true HIN.out))))
          rename_i nq
          go_wp2_with fail
          go_meet
          case rel => exact ⟨false, rfl, ⟨fun _ => HX.out, fun _ => rfl⟩, (Fr.refl wc Nil).drewN _⟩
        obtain ⟨tb, toff, tcap2, htv, htc⟩ := (HT.out.fr0 (HF1.out.trans0 HF2.out)).form (by omega)
        simp only [Value.slice.injEq, true_and] at htv
        obtain ⟨rfl, rfl⟩ := htv
        have hgt := List.getElem?_eq_getElem hm
        have q0 := htc m _ hgt
        have HG : Hid (TB.getD m 0 = TB[m]) := by rw [List.getD_eq_getElem?_getD, hgt]; exact Lib.hid rfl
        generalize TB[m] = x at q0 HG
        clear htc hgt htb hin
        cases hin2 : inB col x
        · have HX : Hid (¬ (TabP TB ⟨op, node, mode, m, row, col, var, dst, eq, fro, upto, key, vals⟩ ∧ ColP TB ⟨op, node, mode, m, row, col, var, dst, eq, fro, upto, key, vals⟩)) := fun h => by have h := h.2 hc; unfold inB at hin2; simp only [Int.toNat_natCast, HG.out] at h; simp [h.1, h.2] at hin2
          have HIN2 := Lib.hid hin2
          clear hin2
          rcases hc with rfl | rfl | rfl
          · go_quiet ((first | (go_at_call 107; exact Calls.quiet_of_same (in_of _ _ _ true HIN.out)) | (go_at_call 107; exact Calls.quiet_of_same (in_of _ _ _ false HIN2.out))))
            rename_i nq
            go_wp2_with fail
            go_meet
            case rel => exact ⟨true, rfl, ⟨fun h => Bool.noConfusion h, fun h => (HX.out h).elim⟩, (Fr.refl wc Nil).drewN _⟩
          · go_quiet ((first | (go_at_call 107; exact Calls.quiet_of_same (in_of _ _ _ true HIN.out)) | (go_at_call 107; exact Calls.quiet_of_same (in_of _ _ _ false HIN2.out))))
            rename_i nq
            go_wp2_with fail
            go_meet
            case rel => exact ⟨true, rfl, ⟨fun h => Bool.noConfusion h, fun h => (HX.out h).elim⟩, (Fr.refl wc Nil).drewN _⟩
          · go_quiet ((first | (go_at_call 107; exact Calls.quiet_of_same (in_of _ _ _ true HIN.out)) | (go_at_call 107; exact Calls.quiet_of_same (in_of _ _ _ false HIN2.out))))
            rename_i nq
            go_wp2_with fail
            go_meet
            case rel => exact ⟨true, rfl, ⟨fun h => Bool.noConfusion h, fun h => (HX.out h).elim⟩, (Fr.refl wc Nil).drewN _⟩
        have HX : Hid (TabP TB ⟨op, node, mode, m, row, col, var, dst, eq, fro, upto, key, vals⟩ ∧ ColP TB ⟨op, node, mode, m, row, col, var, dst, eq, fro, upto, key, vals⟩) := ⟨HTP.out, fun _ => by unfold inB at hin2; simp only [Int.toNat_natCast, HG.out]; simpa using hin2⟩
        have HIN2 := Lib.hid hin2
        clear hin2
        rcases hc with rfl | rfl | rfl
        · go_quiet ((first | (go_at_call 107; exact Calls.quiet_of_same (in_of _ _ _ true HIN.out)) | (go_at_call 107; exact Calls.quiet_of_same (in_of _ _ _ true HIN2.out))))
          rename_i nq
          go_wp2_with fail
          go_meet
          case rel => exact ⟨false, rfl, ⟨fun _ => HX.out, fun _ => rfl⟩, (Fr.refl wc Nil).drewN _⟩
        · go_quiet ((first | (go_at_call 107; exact Calls.quiet_of_same (in_of _ _ _ true HIN.out)) | (go_at_call 107; exact Calls.quiet_of_same (in_of _ _ _ true HIN2.out))))
          rename_i nq
          go_wp2_with fail
          go_meet
          case rel => exact ⟨false, rfl, ⟨fun _ => HX.out, fun _ => rfl⟩, (Fr.refl wc Nil).drewN _⟩
        · go_quiet ((first | (go_at_call 107; exact Calls.quiet_of_same (in_of _ _ _ true HIN.out)) | (go_at_call 107; exact Calls.quiet_of_same (in_of _ _ _ true HIN2.out))))
          rename_i nq
          go_wp2_with fail
          go_meet
          case rel => exact ⟨false, rfl, ⟨fun _ => HX.out, fun _ => rfl⟩, (Fr.refl wc Nil).drewN _⟩
      case rest =>
        obtain ⟨b, rfl, hb, hf⟩ := hcut
        have HR4 := Lib.hid hb
        have HF4 := Lib.hid (HF2.out.trans0 hf)
        obtain ⟨w4, rfl⟩ : ∃ w4 : World, w4 = wc := ⟨_, rfl⟩
        clear hb hf
        cases b
        rotate_left
        · go_wp2_with fail
          go_ret
          exact ⟨false, rfl, ⟨fun h => Bool.noConfusion h, fun h => Bool.noConfusion (HR4.out.2 ⟨h.tab, h.col⟩)⟩, HF1.out.trans0 HF4.out⟩
        have HT4 := Lib.hid (HR4.out.1 rfl)
        clear HR4
        go_upto_region 6 with (fail)
        go_cut [116] from 68 to 116 (fun v wx => ∃ b, v = .bool b ∧ (b = false ↔ VarP nv ⟨op, node, mode, tab, row, col, var, dst, eq, fro, upto, key, vals⟩ ∧ DstP size ⟨op, node, mode, tab, row, col, var, dst, eq, fro, upto, key, vals⟩) ∧ Fr w4 wx Nil)
        case first =>
          have c0 := (HB1.out.fr HF4.out fun h => h).cell 0
          have c6 := (HB1.out.fr HF4.out fun h => h).cell 6
          have c7 := (HB1.out.fr HF4.out fun h => h).cell 7
          simp only [InstrD.cs, List.getElem?_cons_zero, List.getElem?_cons_succ] at c0 c6 c7
          by_cases q3 : op = 3
          · subst q3
            cases hin : inB var nv
            · have HX : Hid (¬ (VarP nv ⟨3, node, mode, tab, row, col, var, dst, eq, fro, upto, key, vals⟩ ∧ DstP size ⟨3, node, mode, tab, row, col, var, dst, eq, fro, upto, key, vals⟩)) := fun h => by have h := h.1 (by simp); unfold inB at hin; simp only at h; simp [h.1, h.2] at hin
              have HIN := Lib.hid hin
              clear hin
              go_wp2_with fail
              refine (in_of _ _ _ false HIN.out).mono ?_
              rintro e w9 ⟨rfl, rfl⟩
              go_wp2_with fail
              go_meet
              case rel => exact ⟨true, rfl, ⟨fun h => Bool.noConfusion h, fun h => (HX.out h).elim⟩, Fr.refl _ _⟩
            · have HX : Hid (VarP nv ⟨3, node, mode, tab, row, col, var, dst, eq, fro, upto, key, vals⟩ ∧ DstP size ⟨3, node, mode, tab, row, col, var, dst, eq, fro, upto, key, vals⟩) := ⟨fun _ => by unfold inB at hin; simpa using hin, fun h => absurd h (by simp)⟩
              have HIN := Lib.hid hin
              clear hin
              go_wp2_with fail
              refine (in_of _ _ _ true HIN.out).mono ?_
              rintro e w9 ⟨rfl, rfl⟩
              go_wp2_with fail
              go_meet
              case rel => exact ⟨false, rfl, ⟨fun _ => HX.out, fun _ => rfl⟩, Fr.refl _ _⟩
          by_cases q7 : op = 7
          · subst q7
            cases hin : inB var nv
            · have HX : Hid (¬ (VarP nv ⟨7, node, mode, tab, row, col, var, dst, eq, fro, upto, key, vals⟩ ∧ DstP size ⟨7, node, mode, tab, row, col, var, dst, eq, fro, upto, key, vals⟩)) := fun h => by have h := h.1 (by simp); unfold inB at hin; simp only at h; simp [h.1, h.2] at hin
              have HIN := Lib.hid hin
              clear hin
              go_wp2_with fail
              refine (in_of _ _ _ false HIN.out).mono ?_
              rintro e w9 ⟨rfl, rfl⟩
              go_wp2_with fail
              go_meet
              case rel => exact ⟨true, rfl, ⟨fun h => Bool.noConfusion h, fun h => (HX.out h).elim⟩, Fr.refl _ _⟩
            · have HX : Hid (VarP nv ⟨7, node, mode, tab, row, col, var, dst, eq, fro, upto, key, vals⟩ ∧ DstP size ⟨7, node, mode, tab, row, col, var, dst, eq, fro, upto, key, vals⟩) := ⟨fun _ => by unfold inB at hin; simpa using hin, fun h => absurd h (by simp)⟩
              have HIN := Lib.hid hin
              clear hin
              go_wp2_with fail
              refine (in_of _ _ _ true HIN.out).mono ?_
              rintro e w9 ⟨rfl, rfl⟩
              go_wp2_with fail
              go_meet
              case rel => exact ⟨false, rfl, ⟨fun _ => HX.out, fun _ => rfl⟩, Fr.refl _ _⟩
          by_cases q8 : op = 8
          · subst q8
            cases hin : inB var nv
            · have HX : Hid (¬ (VarP nv ⟨8, node, mode, tab, row, col, var, dst, eq, fro, upto, key, vals⟩ ∧ DstP size ⟨8, node, mode, tab, row, col, var, dst, eq, fro, upto, key, vals⟩)) := fun h => by have h := h.1 (by simp); unfold inB at hin; simp only at h; simp [h.1, h.2] at hin
              have HIN := Lib.hid hin
              clear hin
              go_wp2_with fail
              refine (in_of _ _ _ false HIN.out).mono ?_
              rintro e w9 ⟨rfl, rfl⟩
              go_wp2_with fail
              go_meet
              case rel => exact ⟨true, rfl, ⟨fun h => Bool.noConfusion h, fun h => (HX.out h).elim⟩, Fr.refl _ _⟩
            · have HX : Hid (VarP nv ⟨8, node, mode, tab, row, col, var, dst, eq, fro, upto, key, vals⟩ ∧ DstP size ⟨8, node, mode, tab, row, col, var, dst, eq, fro, upto, key, vals⟩) := ⟨fun _ => by unfold inB at hin; simpa using hin, fun h => absurd h (by simp)⟩
              have HIN := Lib.hid hin
              clear hin
              go_wp2_with fail
              refine (in_of _ _ _ true HIN.out).mono ?_
              rintro e w9 ⟨rfl, rfl⟩
              go_wp2_with fail
              go_meet
              case rel => exact ⟨false, rfl, ⟨fun _ => HX.out, fun _ => rfl⟩, Fr.refl _ _⟩
          by_cases q12 : op = 12
          · subst q12
            cases hin : inB var nv
            · have HX : Hid (¬ (VarP nv ⟨12, node, mode, tab, row, col, var, dst, eq, fro, upto, key, vals⟩ ∧ DstP size ⟨12, node, mode, tab, row, col, var, dst, eq, fro, upto, key, vals⟩)) := fun h => by have h := h.1 (by simp); unfold inB at hin; simp only at h; simp [h.1, h.2] at hin
              have HIN := Lib.hid hin
              clear hin
              go_wp2_with fail
              refine (in_of _ _ _ false HIN.out).mono ?_
              rintro e w9 ⟨rfl, rfl⟩
              go_wp2_with fail
              go_meet
              case rel => exact ⟨true, rfl, ⟨fun h => Bool.noConfusion h, fun h => (HX.out h).elim⟩, Fr.refl _ _⟩
            cases hin2 : inB dst size
            · have HX : Hid (¬ (VarP nv ⟨12, node, mode, tab, row, col, var, dst, eq, fro, upto, key, vals⟩ ∧ DstP size ⟨12, node, mode, tab, row, col, var, dst, eq, fro, upto, key, vals⟩)) := fun h => by have h := h.2 (by simp); unfold inB at hin2; simp only at h; simp [h.1, h.2] at hin2
              have HIN := Lib.hid hin
              have HIN2 := Lib.hid hin2
              clear hin hin2
              go_wp2_with fail
              refine (in_of _ _ _ true HIN.out).mono ?_
              rintro e w9 ⟨rfl, rfl⟩
              go_wp2_with fail
              refine (in_of _ _ _ false HIN2.out).mono ?_
              rintro e w9 ⟨rfl, rfl⟩
              go_wp2_with fail
              go_meet
              case rel => exact ⟨true, rfl, ⟨fun h => Bool.noConfusion h, fun h => (HX.out h).elim⟩, Fr.refl _ _⟩
            · have HX : Hid (VarP nv ⟨12, node, mode, tab, row, col, var, dst, eq, fro, upto, key, vals⟩ ∧ DstP size ⟨12, node, mode, tab, row, col, var, dst, eq, fro, upto, key, vals⟩) := ⟨fun _ => by unfold inB at hin; simpa using hin, fun _ => by unfold inB at hin2; simpa using hin2⟩
              have HIN := Lib.hid hin
              have HIN2 := Lib.hid hin2
              clear hin hin2
              go_wp2_with fail
              refine (in_of _ _ _ true HIN.out).mono ?_
              rintro e w9 ⟨rfl, rfl⟩
              go_wp2_with fail
              refine (in_of _ _ _ true HIN2.out).mono ?_
              rintro e w9 ⟨rfl, rfl⟩
              go_wp2_with fail
              go_meet
              case rel => exact ⟨false, rfl, ⟨fun _ => HX.out, fun _ => rfl⟩, Fr.refl _ _⟩
          by_cases q13 : op = 13
          · subst q13
            cases hin : inB var nv
            · have HX : Hid (¬ (VarP nv ⟨13, node, mode, tab, row, col, var, dst, eq, fro, upto, key, vals⟩ ∧ DstP size ⟨13, node, mode, tab, row, col, var, dst, eq, fro, upto, key, vals⟩)) := fun h => by have h := h.1 (by simp); unfold inB at hin; simp only at h; simp [h.1, h.2] at hin
              have HIN := Lib.hid hin
              clear hin
              go_wp2_with fail
              refine (in_of _ _ _ false HIN.out).mono ?_
              rintro e w9 ⟨rfl, rfl⟩
              go_wp2_with fail
              go_meet
              case rel => exact ⟨true, rfl, ⟨fun h => Bool.noConfusion h, fun h => (HX.out h).elim⟩, Fr.refl _ _⟩
            cases hin2 : inB dst size
            · have HX : Hid (¬ (VarP nv ⟨13, node, mode, tab, row, col, var, dst, eq, fro, upto, key, vals⟩ ∧ DstP size ⟨13, node, mode, tab, row, col, var, dst, eq, fro, upto, key, vals⟩)) := fun h => by have h := h.2 (by simp); unfold inB at hin2; simp only at h; simp [h.1, h.2] at hin2
              have HIN := Lib.hid hin
              have HIN2 := Lib.hid hin2
              clear hin hin2
              go_wp2_with fail
              refine (in_of _ _ _ true HIN.out).mono ?_
              rintro e w9 ⟨rfl, rfl⟩
              go_wp2_with fail
              refine (in_of _ _ _ false HIN2.out).mono ?_
              rintro e w9 ⟨rfl, rfl⟩
              go_wp2_with fail
              go_meet
              case rel => exact ⟨true, rfl, ⟨fun h => Bool.noConfusion h, fun h => (HX.out h).elim⟩, Fr.refl _ _⟩
            · have HX : Hid (VarP nv ⟨13, node, mode, tab, row, col, var, dst, eq, fro, upto, key, vals⟩ ∧ DstP size ⟨13, node, mode, tab, row, col, var, dst, eq, fro, upto, key, vals⟩) := ⟨fun _ => by unfold inB at hin; simpa using hin, fun _ => by unfold inB at hin2; simpa using hin2⟩
              have HIN := Lib.hid hin
              have HIN2 := Lib.hid hin2
              clear hin hin2
              go_wp2_with fail
              refine (in_of _ _ _ true HIN.out).mono ?_
              rintro e w9 ⟨rfl, rfl⟩
              go_wp2_with fail
              refine (in_of _ _ _ true HIN2.out).mono ?_
              rintro e w9 ⟨rfl, rfl⟩
              go_wp2_with fail
              go_meet
              case rel => exact ⟨false, rfl, ⟨fun _ => HX.out, fun _ => rfl⟩, Fr.refl _ _⟩
          have e3 : (op == 3) = false := by rw [beq_eq_false_iff_ne]; omega
          have e7 : (op == 7) = false := by rw [beq_eq_false_iff_ne]; omega
          have e8 : (op == 8) = false := by rw [beq_eq_false_iff_ne]; omega
          have e12 : (op == 12) = false := by rw [beq_eq_false_iff_ne]; omega
          have e13 : (op == 13) = false := by rw [beq_eq_false_iff_ne]; omega
          have HV0 : Hid (VarP nv ⟨op, node, mode, tab, row, col, var, dst, eq, fro, upto, key, vals⟩) := fun h => absurd h (by simp only; omega)
          by_cases h10 : 10 ≤ op
          rotate_left
          · have HX : Hid (VarP nv ⟨op, node, mode, tab, row, col, var, dst, eq, fro, upto, key, vals⟩ ∧ DstP size ⟨op, node, mode, tab, row, col, var, dst, eq, fro, upto, key, vals⟩) := ⟨HV0.out, fun h => absurd h.1 h10⟩
            clear q3 q7 q8 q12 q13
            go_wp2_with fail
            go_meet
            case rel => exact ⟨false, rfl, ⟨fun _ => HX.out, fun _ => rfl⟩, Fr.refl _ _⟩
          by_cases h13 : op ≤ 13
          rotate_left
          · have HX : Hid (VarP nv ⟨op, node, mode, tab, row, col, var, dst, eq, fro, upto, key, vals⟩ ∧ DstP size ⟨op, node, mode, tab, row, col, var, dst, eq, fro, upto, key, vals⟩) := ⟨HV0.out, fun h => absurd h.2 h13⟩
            clear q3 q7 q8 q12 q13
            go_wp2_with fail
            go_meet
            case rel => exact ⟨false, rfl, ⟨fun _ => HX.out, fun _ => rfl⟩, Fr.refl _ _⟩
          cases hin2 : inB dst size
          · have HX : Hid (¬ (VarP nv ⟨op, node, mode, tab, row, col, var, dst, eq, fro, upto, key, vals⟩ ∧ DstP size ⟨op, node, mode, tab, row, col, var, dst, eq, fro, upto, key, vals⟩)) := fun h => by have h := h.2 ⟨h10, h13⟩; unfold inB at hin2; simp only at h; simp [h.1, h.2] at hin2
            have HIN2 := Lib.hid hin2
            clear hin2 q3 q7 q8 q12 q13
            go_wp2_with fail
            refine (in_of _ _ _ false HIN2.out).mono ?_
            rintro e w9 ⟨rfl, rfl⟩
            go_wp2_with fail
            go_meet
            case rel => exact ⟨true, rfl, ⟨fun h => Bool.noConfusion h, fun h => (HX.out h).elim⟩, Fr.refl _ _⟩
          · have HX : Hid (VarP nv ⟨op, node, mode, tab, row, col, var, dst, eq, fro, upto, key, vals⟩ ∧ DstP size ⟨op, node, mode, tab, row, col, var, dst, eq, fro, upto, key, vals⟩) := ⟨HV0.out, fun _ => by unfold inB at hin2; simpa using hin2⟩
            have HIN2 := Lib.hid hin2
            clear hin2 q3 q7 q8 q12 q13
            go_wp2_with fail
            refine (in_of _ _ _ true HIN2.out).mono ?_
            rintro e w9 ⟨rfl, rfl⟩
            go_wp2_with fail
            go_meet
            case rel => exact ⟨false, rfl, ⟨fun _ => HX.out, fun _ => rfl⟩, Fr.refl _ _⟩
        case rest =>
          obtain ⟨b, rfl, hb, hf⟩ := hcut
          have HR6 := Lib.hid hb
          have HF6 := Lib.hid (HF4.out.trans0 hf)
          obtain ⟨w6, rfl⟩ : ∃ w6 : World, w6 = wc := ⟨_, rfl⟩
          clear hb hf
          cases b
          rotate_left
          · go_wp2_with fail
            go_ret
            exact ⟨false, rfl, ⟨fun h => Bool.noConfusion h, fun h => Bool.noConfusion (HR6.out.2 ⟨h.var, h.dst⟩)⟩, HF1.out.trans0 HF6.out⟩
          have HT6 := Lib.hid (HR6.out.1 rfl)
          clear HR6
          go_upto_region 8 with (fail)
          go_cut [143] from 117 to 143 (fun v wx => ∃ b, v = .bool b ∧ (b = false ↔ ModeP ⟨op, node, mode, tab, row, col, var, dst, eq, fro, upto, key, vals⟩) ∧ Fr w6 wx Nil)
          case first =>
            have c0 := (HB1.out.fr HF6.out fun h => h).cell 0
            have c2 := (HB1.out.fr HF6.out fun h => h).cell 2
            have c4 := (HB1.out.fr HF6.out fun h => h).cell 4
            simp only [InstrD.cs, List.getElem?_cons_zero, List.getElem?_cons_succ] at c0 c2 c4
            by_cases q1 : op = 1
            rotate_left
            · have HX : Hid (ModeP ⟨op, node, mode, tab, row, col, var, dst, eq, fro, upto, key, vals⟩) := fun h => absurd h q1
              have e1 : (op == 1) = false := by rw [beq_eq_false_iff_ne]; omega
              clear q1
              go_wp2_with fail
              go_meet
              case rel => exact ⟨false, rfl, ⟨fun _ => HX.out, fun _ => rfl⟩, Fr.refl _ _⟩
            subst q1
            by_cases q3 : mode = 3
            · subst q3
              have HX : Hid (ModeP ⟨1, node, 3, tab, row, col, var, dst, eq, fro, upto, key, vals⟩) := fun _ => by simp
              go_wp2_with fail
              go_meet
              case rel => exact ⟨false, rfl, ⟨fun _ => HX.out, fun _ => rfl⟩, Fr.refl _ _⟩
            by_cases q5 : mode = 5
            · subst q5
              have HX : Hid (ModeP ⟨1, node, 5, tab, row, col, var, dst, eq, fro, upto, key, vals⟩) := fun _ => by simp
              go_wp2_with fail
              go_meet
              case rel => exact ⟨false, rfl, ⟨fun _ => HX.out, fun _ => rfl⟩, Fr.refl _ _⟩
            have f3 : (mode != 3) = true := by rw [bne_iff_ne]; exact q3
            have f5 : (mode != 5) = true := by rw [bne_iff_ne]; exact q5
            cases row
            rotate_left
            · have HX : Hid (¬ ModeP ⟨1, node, mode, tab, true, col, var, dst, eq, fro, upto, key, vals⟩) := fun h => by have h := h rfl; simp [q3, q5] at h
              clear q3 q5
              go_wp2_with fail
              go_meet
              case rel => exact ⟨true, rfl, ⟨fun h => Bool.noConfusion h, fun h => (HX.out h).elim⟩, Fr.refl _ _⟩
            by_cases q1 : mode = 1
            · subst q1
              have HX : Hid (ModeP ⟨1, node, 1, tab, false, col, var, dst, eq, fro, upto, key, vals⟩) := fun _ => by simp
              clear q3 q5 f3 f5
              go_wp2_with fail
              go_meet
              case rel => exact ⟨false, rfl, ⟨fun _ => HX.out, fun _ => rfl⟩, Fr.refl _ _⟩
            by_cases q2 : mode = 2
            · subst q2
              have HX : Hid (ModeP ⟨1, node, 2, tab, false, col, var, dst, eq, fro, upto, key, vals⟩) := fun _ => by simp
              clear q3 q5 f3 f5
              go_wp2_with fail
              go_meet
              case rel => exact ⟨false, rfl, ⟨fun _ => HX.out, fun _ => rfl⟩, Fr.refl _ _⟩
            have HX : Hid (¬ ModeP ⟨1, node, mode, tab, false, col, var, dst, eq, fro, upto, key, vals⟩) := fun h => by have h := h rfl; simp [q3, q5, q1, q2] at h
            have f1 : (mode != 1) = true := by rw [bne_iff_ne]; exact q1
            have f2 : (mode != 2) = true := by rw [bne_iff_ne]; exact q2
            clear q3 q5 q1 q2
            go_wp2_with fail
            go_meet
            case rel => exact ⟨true, rfl, ⟨fun h => Bool.noConfusion h, fun h => (HX.out h).elim⟩, Fr.refl _ _⟩
          case rest =>
            obtain ⟨b, rfl, hb, hf⟩ := hcut
            have HR8 := Lib.hid hb
            have HF8 := Lib.hid (HF6.out.trans0 hf)
            obtain ⟨w8, rfl⟩ : ∃ w8 : World, w8 = wc := ⟨_, rfl⟩
            clear hb hf
            cases b
            rotate_left
            · go_wp2_with fail
              go_ret
              exact ⟨false, rfl, ⟨fun h => Bool.noConfusion h, fun h => Bool.noConfusion (HR8.out.2 h.mode)⟩, HF1.out.trans0 HF8.out⟩
            have HT8 := Lib.hid (HR8.out.1 rfl)
            clear HR8
            go_upto_region 10 with (fail)
            go_cut [164] from 144 to 164 (fun v wx => ∃ b, v = .bool b ∧ (b = false ↔ KeyP nv ⟨op, node, mode, tab, row, col, var, dst, eq, fro, upto, key, vals⟩) ∧ Fr w8 wx Nil)
            case first =>
              have c0 := (HB1.out.fr HF8.out fun h => h).cell 0
              have c1 := (HB1.out.fr HF8.out fun h => h).cell 1
              have c2 := (HB1.out.fr HF8.out fun h => h).cell 2
              have c3 := (HB1.out.fr HF8.out fun h => h).cell 3
              have c4 := (HB1.out.fr HF8.out fun h => h).cell 4
              have c5 := (HB1.out.fr HF8.out fun h => h).cell 5
              have c6 := (HB1.out.fr HF8.out fun h => h).cell 6
              have c7 := (HB1.out.fr HF8.out fun h => h).cell 7
              have c8 := (HB1.out.fr HF8.out fun h => h).cell 8
              have c9 := (HB1.out.fr HF8.out fun h => h).cell 9
              have c10 := (HB1.out.fr HF8.out fun h => h).cell 10
              have c11 := (HB1.out.fr HF8.out fun h => h).cell 11
              have c12 := (HB1.out.fr HF8.out fun h => h).cell 12
              simp only [InstrD.cs, List.getElem?_cons_zero, List.getElem?_cons_succ] at c0 c1 c2 c3 c4 c5 c6 c7 c8 c9 c10 c11 c12
              go_wp2_with fail
              refine (keyed_any ⟨op, node, mode, tab, row, col, var, dst, eq, fro, upto, key, vals⟩ (.slice ka key.length kc) (.slice va vals.length vc) _ hop1).mono ?_
              rintro e w9 ⟨he, hf9⟩
              have HF9 := Lib.hid (HF8.out.trans0 hf9)
              have HF89 := Lib.hid hf9
              clear c0 c1 c2 c3 c4 c5 c6 c7 c8 c9 c10 c11 c12
              have z0 := (HB1.out.fr HF9.out fun h => h).cell 0
              have z1 := (HB1.out.fr HF9.out fun h => h).cell 1
              have z2 := (HB1.out.fr HF9.out fun h => h).cell 2
              have z3 := (HB1.out.fr HF9.out fun h => h).cell 3
              have z4 := (HB1.out.fr HF9.out fun h => h).cell 4
              have z5 := (HB1.out.fr HF9.out fun h => h).cell 5
              have z6 := (HB1.out.fr HF9.out fun h => h).cell 6
              have z7 := (HB1.out.fr HF9.out fun h => h).cell 7
              have z8 := (HB1.out.fr HF9.out fun h => h).cell 8
              have z9 := (HB1.out.fr HF9.out fun h => h).cell 9
              have z10 := (HB1.out.fr HF9.out fun h => h).cell 10
              have z11 := (HB1.out.fr HF9.out fun h => h).cell 11
              have z12 := (HB1.out.fr HF9.out fun h => h).cell 12
              simp only [InstrD.cs, List.getElem?_cons_zero, List.getElem?_cons_succ] at z0 z1 z2 z3 z4 z5 z6 z7 z8 z9 z10 z11 z12
              cases hkb : keyedB ⟨op, node, mode, tab, row, col, var, dst, eq, fro, upto, key, vals⟩
              · rw [hkb] at he
                subst he
                have HNK : Hid (¬ Keyed ⟨op, node, mode, tab, row, col, var, dst, eq, fro, upto, key, vals⟩) := fun h => by rw [(keyedB_iff _).2 h] at hkb; cases hkb
                have HKB := Lib.hid hkb
                clear hkb hf9
                by_cases q : 0 < key.length
                · have HX : Hid (¬ KeyP nv ⟨op, node, mode, tab, row, col, var, dst, eq, fro, upto, key, vals⟩) := fun h => by have h := h.2 HNK.out; simp only at h; rw [h] at q; simp at q
                  have q2 : (0 : Int) < (key.length : Int) := by omega
                  go_wp2_with fail
                  go_meet
                  case rel => exact ⟨true, rfl, ⟨fun h => Bool.noConfusion h, fun h => (HX.out h).elim⟩, HF89.out⟩
                have HX : Hid (KeyP nv ⟨op, node, mode, tab, row, col, var, dst, eq, fro, upto, key, vals⟩) := ⟨fun h => (HNK.out h).elim, fun _ => List.eq_nil_of_length_eq_zero (by simp only; omega)⟩
                have q2 : ¬ (0 : Int) < (key.length : Int) := by omega
                go_wp2_with fail
                refine (keyed_any ⟨op, node, mode, tab, row, col, var, dst, eq, fro, upto, key, vals⟩ (.slice ka key.length kc) (.slice va vals.length vc) _ hop1).mono ?_
                rintro e w10 ⟨he, hf10⟩
                have HF10 := Lib.hid (HF89.out.trans0 hf10)
                rw [HKB.out] at he
                subst he
                clear hf10 z0 z1 z2 z3 z4 z5 z6 z7 z8 z9 z10 z11 z12
                go_wp2_with fail
                go_meet
                case rel => exact ⟨false, rfl, ⟨fun _ => HX.out, fun _ => rfl⟩, HF10.out⟩
              · rw [hkb] at he
                subst he
                have HKY : Hid (Keyed ⟨op, node, mode, tab, row, col, var, dst, eq, fro, upto, key, vals⟩) := (keyedB_iff _).1 hkb
                have HKB := Lib.hid hkb
                clear hkb hf9
                go_wp2_with fail
                refine (keyed_any ⟨op, node, mode, tab, row, col, var, dst, eq, fro, upto, key, vals⟩ (.slice ka key.length kc) (.slice va vals.length vc) _ hop1).mono ?_
                rintro e w10 ⟨he, hf10⟩
                have HF10 := Lib.hid (HF89.out.trans0 hf10)
                have HF10b := Lib.hid (HF9.out.trans0 hf10)
                rw [HKB.out] at he
                subst he
                clear hf10 z0 z1 z2 z3 z4 z5 z6 z7 z8 z9 z10 z11 z12
                have y11 := (HB1.out.fr HF10b.out fun h => h).cell 11
                simp only [InstrD.cs, List.getElem?_cons_zero, List.getElem?_cons_succ] at y11
                go_wp2_with fail
                have HVA := Lib.hid (vals_one ((HK.out).fr0 HF10b.out) 77)
                refine (good_any _ [key] nv _ HVA.out ⟨by simp, fun t ht => by rw [List.mem_singleton.1 ht]; exact hfk⟩ hnv).mono ?_
                rintro e w11 ⟨he, hf11⟩
                have HF11 := Lib.hid ((HF10.out.alloc _).trans0 hf11)
                clear hf11 y11 HVA
                cases hg : goodP nv key
                · have HX : Hid (¬ KeyP nv ⟨op, node, mode, tab, row, col, var, dst, eq, fro, upto, key, vals⟩) := fun h => by have h := h.1 HKY.out; simp only at h; rw [hg] at h; cases h
                  rw [show [key].all (goodP nv) = false by simp [hg]] at he
                  subst he
                  clear hg
                  go_wp2_with fail
                  go_meet
                  case rel => exact ⟨true, rfl, ⟨fun h => Bool.noConfusion h, fun h => (HX.out h).elim⟩, HF11.out⟩
                · have HX : Hid (KeyP nv ⟨op, node, mode, tab, row, col, var, dst, eq, fro, upto, key, vals⟩) := ⟨fun _ => hg, fun h => (h HKY.out).elim⟩
                  rw [show [key].all (goodP nv) = true by simp [hg]] at he
                  subst he
                  clear hg
                  go_wp2_with fail
                  go_meet
                  case rel => exact ⟨false, rfl, ⟨fun _ => HX.out, fun _ => rfl⟩, HF11.out⟩
            case rest =>
              obtain ⟨b, rfl, hb, hf⟩ := hcut
              have HR10 := Lib.hid hb
              have HF10 := Lib.hid (HF8.out.trans0 hf)
              obtain ⟨w10, rfl⟩ : ∃ w10 : World, w10 = wc := ⟨_, rfl⟩
              clear hb hf
              cases b
              rotate_left
              · go_wp2_with fail
                go_ret
                exact ⟨false, rfl, ⟨fun h => Bool.noConfusion h, fun h => Bool.noConfusion (HR10.out.2 h.key)⟩, HF1.out.trans0 HF10.out⟩
              have HT10 := Lib.hid (HR10.out.1 rfl)
              clear HR10
              have HALL : Hid (ValsP TB nv ⟨op, node, mode, tab, row, col, var, dst, eq, fro, upto, key, vals⟩ → OneP TB nv size ⟨op, node, mode, tab, row, col, var, dst, eq, fro, upto, key, vals⟩) := fun hv => ⟨HBO.out.1, (bareok_iff hop1 hop2).1 HBO.out.2, HT4.out.1, HT4.out.2, HT6.out.1, HT6.out.2, HT8.out, HT10.out, hv⟩
              go_upto_region 12 with (fail)
              have k0 := KeptF.cell (w0 := w10) (show w10.cell? ⟨w.heap.size, 0, none⟩ = some _ from (HB1.out.fr HF10.out fun h => h).cell 0)
              have k1 := KeptF.cell (w0 := w10) (show w10.cell? ⟨w.heap.size, 1, none⟩ = some _ from (HB1.out.fr HF10.out fun h => h).cell 1)
              have k2 := KeptF.cell (w0 := w10) (show w10.cell? ⟨w.heap.size, 2, none⟩ = some _ from (HB1.out.fr HF10.out fun h => h).cell 2)
              have k3 := KeptF.cell (w0 := w10) (show w10.cell? ⟨w.heap.size, 3, none⟩ = some _ from (HB1.out.fr HF10.out fun h => h).cell 3)
              have k4 := KeptF.cell (w0 := w10) (show w10.cell? ⟨w.heap.size, 4, none⟩ = some _ from (HB1.out.fr HF10.out fun h => h).cell 4)
              have k5 := KeptF.cell (w0 := w10) (show w10.cell? ⟨w.heap.size, 5, none⟩ = some _ from (HB1.out.fr HF10.out fun h => h).cell 5)
              have k6 := KeptF.cell (w0 := w10) (show w10.cell? ⟨w.heap.size, 6, none⟩ = some _ from (HB1.out.fr HF10.out fun h => h).cell 6)
              have k7 := KeptF.cell (w0 := w10) (show w10.cell? ⟨w.heap.size, 7, none⟩ = some _ from (HB1.out.fr HF10.out fun h => h).cell 7)
              have k8 := KeptF.cell (w0 := w10) (show w10.cell? ⟨w.heap.size, 8, none⟩ = some _ from (HB1.out.fr HF10.out fun h => h).cell 8)
              have k9 := KeptF.cell (w0 := w10) (show w10.cell? ⟨w.heap.size, 9, none⟩ = some _ from (HB1.out.fr HF10.out fun h => h).cell 9)
              have k10 := KeptF.cell (w0 := w10) (show w10.cell? ⟨w.heap.size, 10, none⟩ = some _ from (HB1.out.fr HF10.out fun h => h).cell 10)
              have k11 := KeptF.cell (w0 := w10) (show w10.cell? ⟨w.heap.size, 11, none⟩ = some _ from (HB1.out.fr HF10.out fun h => h).cell 11)
              have k12 := KeptF.cell (w0 := w10) (show w10.cell? ⟨w.heap.size, 12, none⟩ = some _ from (HB1.out.fr HF10.out fun h => h).cell 12)
              refine wp_region_sink 13 (KeptF w10) (by kernel_rfl) ?_
              have hSa : KeptF w10 w10.drew := KeptF.start _
              refine wpAnyS_take (i := 0) (v := ?_) rfl (by kernel_rfl) (fun _ _ _ h => h) (by rfl) hSa ?_ ?_
              rotate_left
              · intro w' hS'
                (try dsimp only at hS')
                go_simp <;> with_reducible rfl
              try simp only [Act.put, List.setIfInBounds_toArray, List.set_cons_zero, List.set_cons_succ]
              refine wpAnyS_take (i := 1) (v := ?_) rfl (by kernel_rfl) (fun _ _ _ h => h) (by rfl) hSa ?_ ?_
              rotate_left
              · intro w' hS'
                have ck12 := k12 _ hS'
                go_simp <;> with_reducible rfl
              try simp only [Act.put, List.setIfInBounds_toArray, List.set_cons_zero, List.set_cons_succ]
              refine wpAnyS_take (i := 2) (v := ?_) rfl (by kernel_rfl) (fun _ _ _ h => h) (by rfl) hSa ?_ ?_
              rotate_left
              · intro w' hS'
                (try dsimp only at hS')
                go_simp <;> with_reducible rfl
              try simp only [Act.put, List.setIfInBounds_toArray, List.set_cons_zero, List.set_cons_succ]
              refine wpAnyS_take (i := 3) (v := ?_) rfl (by kernel_rfl) (fun _ _ _ h => h) (by rfl) hSa ?_ ?_
              rotate_left
              · intro w' hS'
                have ck0 := k0 _ hS'
                have ck1 := k1 _ hS'
                have ck2 := k2 _ hS'
                have ck3 := k3 _ hS'
                have ck4 := k4 _ hS'
                have ck5 := k5 _ hS'
                have ck6 := k6 _ hS'
                have ck7 := k7 _ hS'
                have ck8 := k8 _ hS'
                have ck9 := k9 _ hS'
                have ck10 := k10 _ hS'
                have ck11 := k11 _ hS'
                have ck12 := k12 _ hS'
                go_simp <;> with_reducible rfl
              try simp only [Act.put, List.setIfInBounds_toArray, List.set_cons_zero, List.set_cons_succ]
              refine wpAnyS_take (i := 4) (v := ?_) rfl (by kernel_rfl) (fun _ _ _ h => h) (by rfl) hSa ?_ ?_
              rotate_left
              · intro w' hS'
                (try dsimp only at hS')
                go_simp <;> with_reducible rfl
              try simp only [Act.put, List.setIfInBounds_toArray, List.set_cons_zero, List.set_cons_succ]
              refine wpAnyS_one (i := 5) rfl (by kernel_rfl) (by decide) (by rfl) fun K hK => ?_
              go_simp
              refine (values_any ⟨op, node, mode, tab, row, col, var, dst, eq, fro, upto, key, vals⟩ _ _ _ TB _ (HT.out.fr0 ((HF1.out.trans0 HF10.out).trans0 (KeptF.fr hSa))) HT4.out.1).mono ?_
              rintro e w11 ⟨rfl, hf11⟩
              have hSb := KeptF.next hSa hf11
              refine hK.out _ _ hSb ?_
              clear hK K
              try simp only [Act.put, List.setIfInBounds_toArray, List.set_cons_zero, List.set_cons_succ]
              obtain ⟨wn, hwn⟩ : ∃ wn, wn = wantN TB ⟨op, node, mode, tab, row, col, var, dst, eq, fro, upto, key, vals⟩ := ⟨_, rfl⟩
              rw [← hwn]
              have HWN := Lib.hid hwn
              clear hwn
              by_cases hq : (vals.length : Int) = wn
              · have f1 : ((vals.length : Int) == wn) = true := by rw [beq_iff_eq]; exact hq
                have HQ := Lib.hid hq
                clear hq
                refine wpAnyS_take (i := 6) (v := ?_) rfl (by kernel_rfl) (fun _ _ _ h => h) (by rfl) hSb ?_ ?_
                rotate_left
                · intro w' hS'
                  (try dsimp only at hS')
                  go_simp <;> with_reducible rfl
                try simp only [Act.put, List.setIfInBounds_toArray, List.set_cons_zero, List.set_cons_succ]
                refine wpAnyS_take (i := 7) (v := ?_) rfl (by kernel_rfl) (fun _ _ _ h => h) (by rfl) hSb ?_ ?_
                rotate_left
                · intro w' hS'
                  (try dsimp only at hS')
                  go_simp <;> with_reducible rfl
                try simp only [Act.put, List.setIfInBounds_toArray, List.set_cons_zero, List.set_cons_succ]
                refine wpAnyS_take (i := 8) (v := ?_) rfl (by kernel_rfl) (fun _ _ _ h => h) (by rfl) hSb ?_ ?_
                rotate_left
                · intro w' hS'
                  (try dsimp only at hS')
                  go_simp <;> with_reducible rfl
                try simp only [Act.put, List.setIfInBounds_toArray, List.set_cons_zero, List.set_cons_succ]
                refine wpAnyS_take (i := 9) (v := ?_) rfl (by kernel_rfl) (fun _ _ _ h => h) (by rfl) hSb ?_ ?_
                rotate_left
                · intro w' hS'
                  (try dsimp only at hS')
                  go_simp <;> with_reducible rfl
                try simp only [Act.put, List.setIfInBounds_toArray, List.set_cons_zero, List.set_cons_succ]
                refine wpAnyS_take (i := 10) (v := ?_) rfl (by kernel_rfl) (fun _ _ _ h => h) (by rfl) hSb ?_ ?_
                rotate_left
                · intro w' hS'
                  have ck12 := k12 _ hS'
                  go_simp <;> with_reducible rfl
                try simp only [Act.put, List.setIfInBounds_toArray, List.set_cons_zero, List.set_cons_succ]
                refine wpAnyS_one (i := 11) rfl (by kernel_rfl) (by decide) (by rfl) fun K hK => ?_
                go_simp
                refine (good_any _ vals nv _ (HV.out.fr0 (HF10.out.trans0 (KeptF.fr hSb))) HFV.out hnv).mono ?_
                rintro e w12 ⟨rfl, hf12⟩
                have hSc := KeptF.next hSb hf12
                refine hK.out _ _ hSc ?_
                clear hK K
                try simp only [Act.put, List.setIfInBounds_toArray, List.set_cons_zero, List.set_cons_succ]
                obtain ⟨g, hg⟩ : ∃ g, g = vals.all (goodP nv) := ⟨_, rfl⟩
                rw [← hg]
                have HG := Lib.hid hg
                clear hg
                refine wpAnyS_take (i := 12) (v := ?_) rfl (by kernel_rfl) (fun _ _ _ h => h) (by rfl) hSc ?_ ?_
                rotate_left
                · intro w' hS'
                  (try dsimp only at hS')
                  go_simp <;> with_reducible rfl
                try simp only [Act.put, List.setIfInBounds_toArray, List.set_cons_zero, List.set_cons_succ]
                refine wpAnyS_last (i := 13) rfl (by kernel_rfl) (by decide) (by kernel_rfl) (by rfl) fun K hK => ?_
                go_simp
                refine hK.out _ _ ?_
                clear hK K
                have HF := Lib.hid (KeptF.fr hSc)
                clear k0 k1 k2 k3 k4 k5 k6 k7 k8 k9 k10 k11 k12 f1 hSa hSb hSc hf11 hf12
                go_wp2_with fail
                go_ret
                exact ⟨g, rfl, ⟨fun h => HALL.out ⟨HQ.out.trans HWN.out, by rw [← HG.out]; exact h⟩, fun h => by rw [HG.out]; exact h.vals.2⟩, HF1.out.trans0 (HF10.out.trans0 HF.out)⟩
              · have f1 : ((vals.length : Int) == wn) = false := by rw [beq_eq_false_iff_ne]; exact hq
                have HQ := Lib.hid hq
                clear hq
                refine wpAnyS_take (i := 6) (v := ?_) rfl (by kernel_rfl) (fun _ _ _ h => h) (by rfl) hSb ?_ ?_
                rotate_left
                · intro w' hS'
                  (try dsimp only at hS')
                  go_simp <;> with_reducible rfl
                try simp only [Act.put, List.setIfInBounds_toArray, List.set_cons_zero, List.set_cons_succ]
                refine wpAnyS_take (i := 7) (v := ?_) rfl (by kernel_rfl) (fun _ _ _ h => h) (by rfl) hSb ?_ ?_
                rotate_left
                · intro w' hS'
                  (try dsimp only at hS')
                  go_simp <;> with_reducible rfl
                try simp only [Act.put, List.setIfInBounds_toArray, List.set_cons_zero, List.set_cons_succ]
                refine wpAnyS_skip (i := 8) rfl (by kernel_rfl) (fun _ _ _ h => h) (by rfl) hSb ?_
                try simp only [Act.put, List.setIfInBounds_toArray, List.set_cons_zero, List.set_cons_succ]
                refine wpAnyS_skip (i := 9) rfl (by kernel_rfl) (fun _ _ _ h => h) (by rfl) hSb ?_
                try simp only [Act.put, List.setIfInBounds_toArray, List.set_cons_zero, List.set_cons_succ]
                refine wpAnyS_skip (i := 10) rfl (by kernel_rfl) (fun _ _ _ h => h) (by rfl) hSb ?_
                try simp only [Act.put, List.setIfInBounds_toArray, List.set_cons_zero, List.set_cons_succ]
                refine wpAnyS_skip (i := 11) rfl (by kernel_rfl) (fun _ _ _ h => h) (by rfl) hSb ?_
                try simp only [Act.put, List.setIfInBounds_toArray, List.set_cons_zero, List.set_cons_succ]
                refine wpAnyS_take (i := 12) (v := ?_) rfl (by kernel_rfl) (fun _ _ _ h => h) (by rfl) hSb ?_ ?_
                rotate_left
                · intro w' hS'
                  (try dsimp only at hS')
                  go_simp <;> with_reducible rfl
                try simp only [Act.put, List.setIfInBounds_toArray, List.set_cons_zero, List.set_cons_succ]
                refine wpAnyS_last (i := 13) rfl (by kernel_rfl) (by decide) (by kernel_rfl) (by rfl) fun K hK => ?_
                go_simp
                refine hK.out _ _ ?_
                clear hK K
                have HF := Lib.hid (KeptF.fr hSb)
                clear k0 k1 k2 k3 k4 k5 k6 k7 k8 k9 k10 k11 k12 f1 hSa hSb hf11
                go_wp2_with fail
                go_ret
                exact ⟨false, rfl, ⟨fun h => Bool.noConfusion h, fun h => absurd (h.vals.1.trans HWN.out.symm) HQ.out⟩, HF1.out.trans0 (HF10.out.trans0 HF.out)⟩
end Go.Proofs.YtgpekgnhbccnoaaGreat
namespace Go.Proofs.YtgpekgnhbccnoaaGreat
open Go Go.RowKit
attribute [local go_sem ↓] Go.wp_at_zero Go.wp_at_succ

def FewC (L : List InstrD) : Prop := L.length ≤ 100000 ∧ ∀ n ∈ L, n.key.length ≤ 100000 ∧ FewT n.vals
def RightRet (TB : List Int) (nv : Int) (L : List InstrD) (w : World) (e : Ending) (w' : World) : Prop := ∃ b, e = .returned (.bool b) ∧ (b = true ↔ RightP TB nv L) ∧ Fr w w' Nil
def OnesTo (TB : List Int) (nv : Nat) (L : List InstrD) (i : Nat) : Prop := ∀ (j : Nat) (n : InstrD), j < i → L[j]? = some n → OneP TB nv L.length n ∧ (n.op = 16 ↔ j + 1 = L.length)
def JumpsTo (L : List InstrD) (k : Nat) : Prop := ∀ (j i : Nat) (m n : InstrD), j < k → L[j]? = some m → L[i]? = some n → 10 ≤ m.op ∧ m.op ≤ 13 → n.op = 15 → ¬ (j < i ∧ (i : Int) < m.dst) ∧ ¬ (i < j ∧ m.dst ≤ (i : Int))
theorem OnesTo.next {TB : List Int} {nv : Nat} {L : List InstrD} {i : Nat} {n : InstrD} (h : OnesTo TB nv L i) (hn : L[i]? = some n) (h1 : OneP TB nv L.length n) (h2 : n.op = 16 ↔ i + 1 = L.length) : OnesTo TB nv L (i + 1) := fun j m hj hm => by
  by_cases e : j = i
  · subst e
    rw [hn] at hm
    cases hm
    exact ⟨h1, h2⟩
  · exact h j m (by omega) hm
theorem JumpsTo.next {L : List InstrD} {k : Nat} {m : InstrD} (h : JumpsTo L k) (hm : L[k]? = some m) (h1 : 10 ≤ m.op ∧ m.op ≤ 13 → ∀ (i : Nat) (n : InstrD), L[i]? = some n → n.op = 15 → ¬ (k < i ∧ (i : Int) < m.dst) ∧ ¬ (i < k ∧ m.dst ≤ (i : Int))) : JumpsTo L (k + 1) := fun j i m' n hj hm' hn hq hp => by
  by_cases e : j = k
  · subst e
    rw [hm] at hm'
    cases hm'
    exact h1 hq i n hn hp
  · exact h j i m' n (by omega) hm' hn hq hp
theorem mark_any (l : List InstrD) : l.any mark = l.any (fun n => decide (n.op = 15)) := rfl
set_option maxRecDepth 100000 in
set_option maxHeartbeats 400000 in
theorem right_none (lv tv : Value) (TB : List Int) (nv : Int) (L : List InstrD) (w : World) (h : CodeAt w lv L) (hq : L.length = 0 ∨ nv < 0) :
    Calls Tryz.prog 38 #[lv, tv, .int .i64 nv] w (RightRet TB nv L w) := by
  obtain ⟨a, c, rfl⟩ := h.shape
  have HX : Hid (¬ RightP TB nv L) := fun hr => by have := hr.ne; have := hr.pos; omega
  clear h
  by_cases h0 : L.length = 0
  · obtain rfl := List.eq_nil_of_length_eq_zero h0
    clear h0 hq
    go_enter Tryz.func38, Tryz.ntmps38
    go_wp2_with fail
    go_ret
    exact ⟨false, rfl, ⟨fun h => Bool.noConfusion h, fun h => (HX.out h).elim⟩, Fr.refl _ _⟩
  · have h1 : nv < 0 := by omega
    have e : ((L.length : Int) == 0) = false := by rw [beq_eq_false_iff_ne]; omega
    clear hq h0
    go_enter Tryz.func38, Tryz.ntmps38
    go_wp2_with fail
    go_ret
    exact ⟨false, rfl, ⟨fun h => Bool.noConfusion h, fun h => (HX.out h).elim⟩, Fr.refl _ _⟩
set_option maxRecDepth 100000 in
set_option maxHeartbeats 8000000 in
theorem right_main (b off c : Nat) (tv : Value) (TB : List Int) (nv : Nat) (L : List InstrD) (w : World) (h : CodeAt w (.slice (some ⟨b, off, none⟩) L.length c) L) (hcap : L.length ≤ c) (ht : IntsAt w tv TB) (hf : FewC L) (hnv : nv ≤ 1000000) (hTB : TB.length ≤ 1000000) (h0 : 0 < L.length) :
    Calls Tryz.prog 38 #[.slice (some ⟨b, off, none⟩) L.length c, tv, .int .i64 nv] w (RightRet TB nv L w) := by
  obtain ⟨ta, tc, rfl⟩ := ht.shape
  have HT := Lib.hid ht
  have HC := Lib.hid h
  have HFEW := Lib.hid hf
  have hLl := hf.1
  have e0 : ((L.length : Int) == 0) = false := by rw [beq_eq_false_iff_ne]; omega
  have hn0 : ¬ (nv : Int) < 0 := by omega
  clear h ht hf
  go_enter Tryz.func38, Tryz.ntmps38
  go_wp2_with fail
  go_loopw [22] (fun vi wr => ∃ i : Nat, i ≤ L.length ∧ vi = .int .i64 i ∧ OnesTo TB nv L i ∧ Fr w wr Nil) (fun vi _ => L.length - (intOf vi).toNat)
  case atStart => exact ⟨0, by omega, rfl, fun j n hj => by omega, Fr.refl _ _⟩
  case round =>
    obtain ⟨i, hi, rfl, hon, hf⟩ := hrel
    have HON := Lib.hid hon
    have HF := Lib.hid hf
    obtain ⟨wo, rfl⟩ : ∃ wo : World, wo = wr := ⟨_, rfl⟩
    clear hon hf
    by_cases hlt : i < L.length
    · obtain ⟨b2, off2, cap, hvv, hvc⟩ := (HC.out.fr0 HF.out).form (by omega)
      simp only [Value.slice.injEq, Option.some.injEq, Addr.mk.injEq, and_true, true_and] at hvv
      obtain ⟨⟨rfl, rfl⟩, rfl⟩ := hvv
      have hg := List.getElem?_eq_getElem hlt
      generalize L[i] = n at hg
      obtain ⟨ka, kc, va, vc, hkt, hvt, p0, p1, p2, p3, p4, p5, p6, p7, p8, p9, p10, p11, p12⟩ := (hvc i n hg).cell
      have HG := Lib.hid hg
      have HNF := Lib.hid (HFEW.out.2 n (List.mem_of_getElem? hg))
      have HW : Hid (∀ o, Fr wo (wo.alloc o) Nil) := fun o => (Fr.refl wo Nil).alloc o
      have HKT := Lib.hid hkt
      have HVT := Lib.hid hvt
      have hii : (i : Int) < (L.length : Int) := by omega
      clear hvc hg hkt hvt
      obtain ⟨w1, hw1⟩ : ∃ w1, w1 = wo.alloc (.cells #[.int .u8 n.op, .int .i64 n.node, .int .u8 n.mode, .int .i64 n.tab, .bool n.row, .int .i64 n.col, .int .i64 n.var, .int .i64 n.dst, .bool n.eq, .int .i64 n.fro, .int .i64 n.upto, .slice ka n.key.length kc, .slice va n.vals.length vc] 81) := ⟨_, rfl⟩
      have HB1 : Hid (Bk w1 wo.heap.size 81 (n.cs (.slice ka n.key.length kc) (.slice va n.vals.length vc))) := by rw [hw1]; exact Lib.hid (Bk.new wo _ _)
      have HF1 : Hid (Fr wo w1 Nil) := by rw [hw1]; exact HW.out _
      have HW1 := Lib.hid hw1
      clear hw1
      go_wp2_with fail
      rw [← HW1.out]
      refine (one_any n (.slice ka n.key.length kc) (.slice va n.vals.length vc) _ TB nv L.length _ (HKT.out.fr0 HF1.out) (HVT.out.fr0 HF1.out) (HT.out.fr0 (HF.out.trans0 HF1.out)) HNF.out.1 HNF.out.2 hnv hTB).mono ?_
      rintro e w2 ⟨bo, rfl, hbo, hf2⟩
      have HBO := Lib.hid hbo
      have HF2 := Lib.hid hf2
      have HFA := Lib.hid (HF.out.trans0 (HF1.out.trans0 hf2))
      have z0 := (HB1.out.fr hf2 fun h => h).cell 0
      simp only [InstrD.cs, List.getElem?_cons_zero] at z0
      clear hbo hf2 p0 p1 p2 p3 p4 p5 p6 p7 p8 p9 p10 p11 p12
      cases bo
      · have HX : Hid (¬ RightP TB nv L) := fun hr => by
          have := HBO.out.2 (hr.one i n HG.out).1
          cases this
        go_wp2_with fail
        go_ret
        exact ⟨false, rfl, ⟨fun h => Bool.noConfusion h, fun h => (HX.out h).elim⟩, HFA.out⟩
      · have HOP := Lib.hid (HBO.out.1 rfl)
        clear HBO
        by_cases h16 : n.op = 16
        · have f1 : (n.op == 16) = true := by rw [beq_iff_eq]; exact h16
          by_cases hla : i + 1 = L.length
          · have f2 : ((i : Int) == (L.length : Int) - 1) = true := by rw [beq_iff_eq]; omega
            have HN := Lib.hid (HON.out.next HG.out HOP.out (by omega))
            clear h16 hla
            go_wp2_with fail
            go_roundw
            case rel => exact ⟨i + 1, by omega, by go_num, HN.out, HFA.out⟩
            case measure => simp [intOf]; omega
          · have f2 : ((i : Int) == (L.length : Int) - 1) = false := by rw [beq_eq_false_iff_ne]; omega
            have HX : Hid (¬ RightP TB nv L) := fun hr => hla ((hr.one i n HG.out).2.1 h16)
            clear h16 hla
            go_wp2_with fail
            go_ret
            exact ⟨false, rfl, ⟨fun h => Bool.noConfusion h, fun h => (HX.out h).elim⟩, HFA.out⟩
        · have f1 : (n.op == 16) = false := by rw [beq_eq_false_iff_ne]; exact h16
          by_cases hla : i + 1 = L.length
          · have f2 : ((i : Int) == (L.length : Int) - 1) = true := by rw [beq_iff_eq]; omega
            have HX : Hid (¬ RightP TB nv L) := fun hr => h16 ((hr.one i n HG.out).2.2 hla)
            clear h16 hla
            go_wp2_with fail
            go_ret
            exact ⟨false, rfl, ⟨fun h => Bool.noConfusion h, fun h => (HX.out h).elim⟩, HFA.out⟩
          · have f2 : ((i : Int) == (L.length : Int) - 1) = false := by rw [beq_eq_false_iff_ne]; omega
            have HN := Lib.hid (HON.out.next HG.out HOP.out ⟨fun h => absurd h h16, fun h => absurd h hla⟩)
            clear h16 hla
            go_wp2_with fail
            go_roundw
            case rel => exact ⟨i + 1, by omega, by go_num, HN.out, HFA.out⟩
            case measure => simp [intOf]; omega
    · obtain rfl : i = L.length := by omega
      have hii : ¬ (L.length : Int) < (L.length : Int) := by omega
      clear hlt hi
      go_wp2_with fail
      have HONE := Lib.hid HON.out
      go_loopw [48] (fun vi wr => ∃ k : Nat, k ≤ L.length ∧ vi = .int .i64 k ∧ JumpsTo L k ∧ Fr w wr Nil) (fun vi _ => L.length - (intOf vi).toNat)
      case atStart => exact ⟨0, by omega, rfl, fun j i m n hj => by omega, HF.out⟩
      case round =>
        clear HF
        obtain ⟨k, hk, rfl, hju, hf⟩ := hrel
        have HJ := Lib.hid hju
        have HF := Lib.hid hf
        obtain ⟨wo, rfl⟩ : ∃ wo : World, wo = wr := ⟨_, rfl⟩
        clear hju hf
        by_cases hlt : k < L.length
        · obtain ⟨b2, off2, cap, hvv, hvc⟩ := (HC.out.fr0 HF.out).form (by omega)
          simp only [Value.slice.injEq, Option.some.injEq, Addr.mk.injEq, and_true, true_and] at hvv
          obtain ⟨⟨rfl, rfl⟩, rfl⟩ := hvv
          have hg := List.getElem?_eq_getElem hlt
          generalize L[k] = n at hg
          obtain ⟨ka, kc, va, vc, hkt, hvt, p0, p1, p2, p3, p4, p5, p6, p7, p8, p9, p10, p11, p12⟩ := (hvc k n hg).cell
          have HG := Lib.hid hg
          have HFW : Hid (∀ o, Fr w (wo.alloc o) Nil) := fun o => HF.out.alloc o
          have hkk : (k : Int) < (L.length : Int) := by omega
          clear hvc hg hkt hvt
          by_cases h10 : n.op < 10
          · have HN := Lib.hid (HJ.out.next HG.out (fun h => by omega))
            go_wp2_with fail
            go_roundw
            case rel => exact ⟨k + 1, by omega, by go_num, HN.out, HFW.out _⟩
            case measure => simp [intOf]; omega
          by_cases h13 : 13 < n.op
          · have HN := Lib.hid (HJ.out.next HG.out (fun h => by omega))
            go_wp2_with fail
            go_roundw
            case rel => exact ⟨k + 1, by omega, by go_num, HN.out, HFW.out _⟩
            case measure => simp [intOf]; omega
          have HQ : Hid (10 ≤ n.op ∧ n.op ≤ 13) := ⟨by omega, by omega⟩
          have hdst := (HONE.out k n hlt HG.out).1.dst HQ.out
          obtain ⟨d, hd⟩ : ∃ d : Nat, n.dst = (d : Int) := ⟨n.dst.toNat, by omega⟩
          rw [hd] at p7
          have HD := Lib.hid hd
          have hdl : d < L.length := by omega
          clear hdst hd
          obtain ⟨w1, hw1⟩ : ∃ w1, w1 = wo.alloc (.cells #[.int .u8 n.op, .int .i64 n.node, .int .u8 n.mode, .int .i64 n.tab, .bool n.row, .int .i64 n.col, .int .i64 n.var, .int .i64 d, .bool n.eq, .int .i64 n.fro, .int .i64 n.upto, .slice ka n.key.length kc, .slice va n.vals.length vc] 81) := ⟨_, rfl⟩
          have HF1 : Hid (Fr w w1 Nil) := by rw [hw1]; exact HFW.out _
          have b7 : w1.cell? ⟨wo.heap.size, 7, none⟩ = some (.int .i64 d) := by rw [hw1]; exact (Bk.new wo _ _).cell 7
          have HW1 := Lib.hid hw1
          have k7 := KeptF.cell b7
          clear hw1
          by_cases hdk : k < d
          · have hdk2 : (k : Int) < (d : Int) := by omega
            have hdk3 : (k : Int) ≤ (d : Int) := by omega
            have hdk4 : ¬ (d : Int) ≤ (k : Int) := by omega
            go_wp2_with fail
            rw [← HW1.out]
            refine wp_region_sink 9 (KeptF w1) (by kernel_rfl) ?_
            have hSa : KeptF w1 w1.drew := KeptF.start _
            refine wpAnyS_take (i := 0) (v := ?_) rfl (by kernel_rfl) (fun _ _ _ h => h) (by rfl) hSa ?_ ?_
            rotate_left
            · intro w' hS'
              (try dsimp only at hS')
              go_simp <;> with_reducible rfl
            try simp only [Act.put, List.setIfInBounds_toArray, List.set_cons_zero, List.set_cons_succ]
            refine wpAnyS_take (i := 1) (v := ?_) rfl (by kernel_rfl) (fun _ _ _ h => h) (by rfl) hSa ?_ ?_
            rotate_left
            · intro w' hS'
              (try dsimp only at hS')
              go_simp <;> with_reducible rfl
            try simp only [Act.put, List.setIfInBounds_toArray, List.set_cons_zero, List.set_cons_succ]
            refine wpAnyS_take (i := 2) (v := ?_) rfl (by kernel_rfl) (fun _ _ _ h => h) (by rfl) hSa ?_ ?_
            rotate_left
            · intro w' hS'
              have ck7 := k7 _ hS'
              go_simp <;> with_reducible rfl
            try simp only [Act.put, List.setIfInBounds_toArray, List.set_cons_zero, List.set_cons_succ]
            refine wpAnyS_take (i := 3) (v := ?_) rfl (by kernel_rfl) (fun _ _ _ h => h) (by rfl) hSa ?_ ?_
            rotate_left
            · intro w' hS'
              (try dsimp only at hS')
              go_simp <;> with_reducible rfl
            try simp only [Act.put, List.setIfInBounds_toArray, List.set_cons_zero, List.set_cons_succ]
            refine wpAnyS_take (i := 4) (v := ?_) rfl (by kernel_rfl) (fun _ _ _ h => h) (by rfl) hSa ?_ ?_
            rotate_left
            · intro w' hS'
              (try dsimp only at hS')
              go_simp <;> with_reducible rfl
            try simp only [Act.put, List.setIfInBounds_toArray, List.set_cons_zero, List.set_cons_succ]
            refine wpAnyS_take (i := 5) (v := ?_) rfl (by kernel_rfl) (fun _ _ _ h => h) (by rfl) hSa ?_ ?_
            rotate_left
            · intro w' hS'
              (try dsimp only at hS')
              go_simp <;> with_reducible rfl
            try simp only [Act.put, List.setIfInBounds_toArray, List.set_cons_zero, List.set_cons_succ]
            refine wpAnyS_take (i := 6) (v := ?_) rfl (by kernel_rfl) (fun _ _ _ h => h) (by rfl) hSa ?_ ?_
            rotate_left
            · intro w' hS'
              have ck7 := k7 _ hS'
              go_simp <;> with_reducible rfl
            try simp only [Act.put, List.setIfInBounds_toArray, List.set_cons_zero, List.set_cons_succ]
            refine wpAnyS_take (i := 7) (v := ?_) rfl (by kernel_rfl) (fun _ _ _ h => h) (by rfl) hSa ?_ ?_
            rotate_left
            · intro w' hS'
              (try dsimp only at hS')
              go_simp <;> with_reducible rfl
            try simp only [Act.put, List.setIfInBounds_toArray, List.set_cons_zero, List.set_cons_succ]
            refine wpAnyS_take (i := 8) (v := ?_) rfl (by kernel_rfl) (fun _ _ _ h => h) (by rfl) hSa ?_ ?_
            rotate_left
            · intro w' hS'
              (try dsimp only at hS')
              go_simp <;> with_reducible rfl
            try simp only [Act.put, List.setIfInBounds_toArray, List.set_cons_zero, List.set_cons_succ]
            refine wpAnyS_last (i := 9) rfl (by kernel_rfl) (by decide) (by kernel_rfl) (by rfl) fun K hK => ?_
            go_simp
            refine hK.out _ _ ?_
            clear hK K hSa k7
            go_wp2_with fail
            have e1 : (min (k : Int) (d : Int)).toNat = k := by omega
            have e2 : (max (k : Int) (d : Int)).toNat = d := by omega
            rw [e1, e2]
            clear e1 e2
            refine (containsC_any _ ((L.drop k).take (d - k)) _ (code_seg (HC.out.fr0 (HF1.out.trans0 (Fr.refl w1 Nil).drew)) k (d - k) _ (by omega)) (by rw [List.length_take]; omega)).mono ?_
            rintro e w5 ⟨he, hf5⟩
            have HF5 := Lib.hid ((HF1.out.trans0 (Fr.refl w1 Nil).drew).trans0 hf5)
            have HSEG := Lib.hid (jump_seg HG.out HQ.out (by rw [HD.out]; omega) (lo := k) (hi := d) (by rw [HD.out]; omega) (by rw [HD.out]; rw [if_pos (by omega)]; omega))
            clear hf5
            cases hm : ((L.drop k).take (d - k)).any mark
            · have HN := Lib.hid (HJ.out.next HG.out fun _ => HSEG.out.1 (by rw [show d - k = d - k by omega]; exact hm))
              rw [hm] at he
              subst he
              clear hm
              go_wp2_with fail
              go_roundw
              case rel => exact ⟨k + 1, by omega, by go_num, HN.out, HF5.out⟩
              case measure => simp [intOf]; omega
            · have HX : Hid (¬ RightP TB nv L) := fun hr => by
                have := HSEG.out.2 fun i m h1 h2 => hr.jump k i n m HG.out h1 HQ.out h2
                rw [show d - k = d - k by omega, ← mark_any, hm] at this
                cases this
              rw [hm] at he
              subst he
              clear hm
              go_wp2_with fail
              go_ret
              exact ⟨false, rfl, ⟨fun h => Bool.noConfusion h, fun h => (HX.out h).elim⟩, HF5.out⟩
          · have hdk2 : ¬ (k : Int) < (d : Int) := by omega
            go_wp2_with fail
            rw [← HW1.out]
            refine wp_region_sink 9 (KeptF w1) (by kernel_rfl) ?_
            have hSa : KeptF w1 w1.drew := KeptF.start _
            refine wpAnyS_take (i := 0) (v := ?_) rfl (by kernel_rfl) (fun _ _ _ h => h) (by rfl) hSa ?_ ?_
            rotate_left
            · intro w' hS'
              (try dsimp only at hS')
              go_simp <;> with_reducible rfl
            try simp only [Act.put, List.setIfInBounds_toArray, List.set_cons_zero, List.set_cons_succ]
            refine wpAnyS_take (i := 1) (v := ?_) rfl (by kernel_rfl) (fun _ _ _ h => h) (by rfl) hSa ?_ ?_
            rotate_left
            · intro w' hS'
              (try dsimp only at hS')
              go_simp <;> with_reducible rfl
            try simp only [Act.put, List.setIfInBounds_toArray, List.set_cons_zero, List.set_cons_succ]
            refine wpAnyS_take (i := 2) (v := ?_) rfl (by kernel_rfl) (fun _ _ _ h => h) (by rfl) hSa ?_ ?_
            rotate_left
            · intro w' hS'
              have ck7 := k7 _ hS'
              go_simp <;> with_reducible rfl
            try simp only [Act.put, List.setIfInBounds_toArray, List.set_cons_zero, List.set_cons_succ]
            refine wpAnyS_take (i := 3) (v := ?_) rfl (by kernel_rfl) (fun _ _ _ h => h) (by rfl) hSa ?_ ?_
            rotate_left
            · intro w' hS'
              (try dsimp only at hS')
              go_simp <;> with_reducible rfl
            try simp only [Act.put, List.setIfInBounds_toArray, List.set_cons_zero, List.set_cons_succ]
            refine wpAnyS_take (i := 4) (v := ?_) rfl (by kernel_rfl) (fun _ _ _ h => h) (by rfl) hSa ?_ ?_
            rotate_left
            · intro w' hS'
              (try dsimp only at hS')
              go_simp <;> with_reducible rfl
            try simp only [Act.put, List.setIfInBounds_toArray, List.set_cons_zero, List.set_cons_succ]
            refine wpAnyS_take (i := 5) (v := ?_) rfl (by kernel_rfl) (fun _ _ _ h => h) (by rfl) hSa ?_ ?_
            rotate_left
            · intro w' hS'
              (try dsimp only at hS')
              go_simp <;> with_reducible rfl
            try simp only [Act.put, List.setIfInBounds_toArray, List.set_cons_zero, List.set_cons_succ]
            refine wpAnyS_take (i := 6) (v := ?_) rfl (by kernel_rfl) (fun _ _ _ h => h) (by rfl) hSa ?_ ?_
            rotate_left
            · intro w' hS'
              have ck7 := k7 _ hS'
              go_simp <;> with_reducible rfl
            try simp only [Act.put, List.setIfInBounds_toArray, List.set_cons_zero, List.set_cons_succ]
            refine wpAnyS_take (i := 7) (v := ?_) rfl (by kernel_rfl) (fun _ _ _ h => h) (by rfl) hSa ?_ ?_
            rotate_left
            · intro w' hS'
              (try dsimp only at hS')
              go_simp <;> with_reducible rfl
            try simp only [Act.put, List.setIfInBounds_toArray, List.set_cons_zero, List.set_cons_succ]
            refine wpAnyS_take (i := 8) (v := ?_) rfl (by kernel_rfl) (fun _ _ _ h => h) (by rfl) hSa ?_ ?_
            rotate_left
            · intro w' hS'
              (try dsimp only at hS')
              go_simp <;> with_reducible rfl
            try simp only [Act.put, List.setIfInBounds_toArray, List.set_cons_zero, List.set_cons_succ]
            refine wpAnyS_last (i := 9) rfl (by kernel_rfl) (by decide) (by kernel_rfl) (by rfl) fun K hK => ?_
            go_simp
            refine hK.out _ _ ?_
            clear hK K hSa k7
            go_wp2_with fail
            have e1 : (min (k : Int) (d : Int)).toNat = d := by omega
            have e2 : (max (k : Int) (d : Int) + 1).toNat = k + 1 := by omega
            rw [e1, e2]
            clear e1 e2
            refine (containsC_any _ ((L.drop d).take (k + 1 - d)) _ (code_seg (HC.out.fr0 (HF1.out.trans0 (Fr.refl w1 Nil).drew)) d (k + 1 - d) _ (by omega)) (by rw [List.length_take]; omega)).mono ?_
            rintro e w5 ⟨he, hf5⟩
            have HF5 := Lib.hid ((HF1.out.trans0 (Fr.refl w1 Nil).drew).trans0 hf5)
            have HSEG := Lib.hid (jump_seg HG.out HQ.out (by rw [HD.out]; omega) (lo := d) (hi := (k + 1)) (by rw [HD.out]; omega) (by rw [HD.out]; rw [if_neg (by omega)]; omega))
            clear hf5
            cases hm : ((L.drop d).take (k + 1 - d)).any mark
            · have HN := Lib.hid (HJ.out.next HG.out fun _ => HSEG.out.1 (by rw [show (k + 1) - d = k + 1 - d by omega]; exact hm))
              rw [hm] at he
              subst he
              clear hm
              go_wp2_with fail
              go_roundw
              case rel => exact ⟨k + 1, by omega, by go_num, HN.out, HF5.out⟩
              case measure => simp [intOf]; omega
            · have HX : Hid (¬ RightP TB nv L) := fun hr => by
                have := HSEG.out.2 fun i m h1 h2 => hr.jump k i n m HG.out h1 HQ.out h2
                rw [show (k + 1) - d = k + 1 - d by omega, ← mark_any, hm] at this
                cases this
              rw [hm] at he
              subst he
              clear hm
              go_wp2_with fail
              go_ret
              exact ⟨false, rfl, ⟨fun h => Bool.noConfusion h, fun h => (HX.out h).elim⟩, HF5.out⟩
        · obtain rfl : k = L.length := by omega
          have hkk : ¬ (L.length : Int) < (L.length : Int) := by omega
          have HX : Hid (RightP TB nv L) := ⟨h0, by omega, fun i n hn => by
            have := HONE.out i n (List.getElem?_eq_some_iff.1 hn).1 hn
            simpa using this, fun j i m n hm hn => HJ.out j i m n (List.getElem?_eq_some_iff.1 hm).1 hm hn⟩
          clear hlt hk
          go_wp2_with fail
          go_ret
          exact ⟨true, rfl, ⟨fun _ => HX.out, fun _ => rfl⟩, HF.out⟩
theorem right_any (lv tv : Value) (TB : List Int) (nv : Int) (L : List InstrD) (w : World) (h : CodeAt w lv L) (hcap : CapOk lv) (ht : IntsAt w tv TB) (hf : FewC L) (hnv : nv ≤ 1000000) (hTB : TB.length ≤ 1000000) :
    Calls Tryz.prog 38 #[lv, tv, .int .i64 nv] w (RightRet TB nv L w) := by
  by_cases hq : L.length = 0 ∨ nv < 0
  · exact right_none lv tv TB nv L w h hq
  · obtain ⟨b, off, c, rfl, _⟩ := h.form (by omega)
    obtain ⟨m, rfl⟩ : ∃ m : Nat, nv = (m : Int) := ⟨nv.toNat, by omega⟩
    exact right_main b off c tv TB m L w h (hcap _ _ _ rfl) ht hf (by omega) hTB (by omega)
end Go.Proofs.YtgpekgnhbccnoaaGreat
