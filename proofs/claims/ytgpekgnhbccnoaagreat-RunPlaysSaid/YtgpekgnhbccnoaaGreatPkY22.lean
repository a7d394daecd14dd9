/-
 Walk of one: is an instruction right?
 No condition but sizes.
 Walk of Right: are instructions right?
 No condition but sizes.
 Walk of clone: instructions of their own memory.
 No condition but sizes.
-/
import Derived.Test.YtgpekgnhbccnoaaGreatPkY21
import Derived.Deep.QuietTactic
import Derived.Deep.Cut
import Derived.Deep.CutRange
import Derived.Test.YtgpekgnhbccnoaaGreatPkY15
import Derived.Test.YtgpekgnhbccnoaaGreatPkY19
import Derived.Test.YtgpekgnhbccnoaaGreatPkY18
namespace Go.Proofs.YtgpekgnhbccnoaaGreat
open Go Go.RowKit
attribute [local go_sem ↓] Go.wp_at_zero Go.wp_at_succ

def inB (i n : Int) : Bool := decide (0 ≤ i) && decide (i < n)
set_option maxRecDepth 100000 in
set_option maxHeartbeats 400000 in
theorem in_any (i n : Int) (w : World) : Calls Tryz.prog 107 #[.int .i64 i, .int .i64 n] w fun e w' => e = .returned (.bool (inB i n)) ∧ w' = w := by
 by_cases h0 : 0 ≤ i
 ·have HE : Hid (inB i n = decide (i < n)) := by
   have : inB i n = decide (i < n) := by unfold inB; simp [h0]
   exact this
  go_enter Tryz.func107, Tryz.ntmps107
  go_wp2_with fail
  go_ret
  exact ⟨by rw [HE.out]; rfl, rfl⟩
 ·have HE : Hid (inB i n = false) := by
   have : inB i n = false := by unfold inB; simp [h0]
   exact this
  go_enter Tryz.func107, Tryz.ntmps107
  go_wp2_with fail
  go_ret
  exact ⟨by rw [HE.out]; rfl, rfl⟩
theorem in_of (i n : Int) (w : World) (b : Bool) (h : inB i n = b) : Calls Tryz.prog 107 #[.int .i64 i, .int .i64 n] w fun e w' => e = .returned (.bool b) ∧ w' = w := by
 subst h
 exact in_any i n w
theorem two_new (w : World) (t : TypeId) (A B : Array Value) : Bk ((w.alloc (.cells A t)).alloc (.cells B t)) w.heap.size t A.toList ∧ Bk ((w.alloc (.cells A t)).alloc (.cells B t)) (w.heap.size + 1) t B.toList := by
 refine ⟨(Bk.new w t A).alloc _, ?_⟩
 have := Bk.new (w.alloc (.cells A t)) t B
 rwa [World.size_alloc] at this
theorem vals_one {w : World} {v : Value} {t : List TermD} (h : TermsAt w v t) (e : TypeId) : ValsAt (w.alloc (.cells #[v] e)) (.slice (some ⟨w.heap.size, 0, none⟩) 1 1) [t] := by
 refine ⟨_, 1, rfl, .inr ⟨w.heap.size, 0, rfl, fun i u hu => ?_⟩⟩
 cases i with
 | zero =>
  simp at hu
  subst hu
  exact ⟨v, (Bk.new w e #[v]).cell 0, h.fr0 ((Fr.refl w Nil).alloc _)⟩
 | succ i => simp at hu
def BareOk (n : InstrD) : Prop := (1 ≤ n.op ∧ n.op ≤ 16) ∧ NoneP (bareI n)
def OneRet (TB : List Int) (nv size : Nat) (n : InstrD) (w : World) (e : Ending) (w' : World) : Prop := ∃ b, e = .returned (.bool b) ∧ (b = true ↔ OneP TB nv size n) ∧ Fr w w' Nil
theorem bareok_iff {n : InstrD} (h1 : 1 ≤ n.op) (h2 : n.op ≤ 16) : NoneP (bareI n) ↔ BareP n := (bare_iff h1 h2).symm
set_option maxRecDepth 100000 in
set_option maxHeartbeats 40000000 in
theorem one_any (n : InstrD) (kv vv tv : Value) (TB : List Int) (nv size : Nat) (w : World) (hk : TermsAt w kv n.key) (hv : ValsAt w vv n.vals) (ht : IntsAt w tv TB) (hfk : n.key.length ≤ 100000) (hfv : FewT n.vals) (hnv : nv ≤ 1000000) (hTB : TB.length ≤ 1000000) :
  Calls Tryz.prog 79 #[n.val kv vv, tv, .int .i64 nv, .int .i64 size] w (OneRet TB nv size n w) := by
 obtain ⟨op, node, mode, tab, row, col, var, dst, eq, fro, upto, key, vals⟩ := n
 simp only at hk hv hfk hfv
 obtain ⟨ka, kc, rfl⟩ := hk.shape
 obtain ⟨va, vc, rfl⟩ := hv.shape
 obtain ⟨ta, tc, rfl⟩ := ht.shape
 simp only [InstrD.val]
 have HT := Lib.hid ht
 have HFV := Lib.hid hfv
 obtain ⟨w1, hw1⟩ : ∃ w1, w1 = w.alloc (.cells #[.int .u8 op, .int .i64 node, .int .u8 mode, .int .i64 tab, .bool row, .int .i64 col, .int .i64 var, .int .i64 dst, .bool eq, .int .i64 fro, .int .i64 upto, .slice ka key.length kc, .slice va vals.length vc] 81) := ⟨_, rfl⟩
 have HF1 : Hid (Fr w w1 Nil) := by rw [hw1]; exact Lib.hid ((Fr.refl w Nil).alloc _)
 have HB1 : Hid (Bk w1 w.heap.size 81 (InstrD.cs ⟨op, node, mode, tab, row, col, var, dst, eq, fro, upto, key, vals⟩ (.slice ka key.length kc) (.slice va vals.length vc))) := by rw [hw1]; exact Lib.hid (Bk.new w _ _)
 have HK := Lib.hid (hk.fr0 HF1.out)
 have HV := Lib.hid (hv.fr0 HF1.out)
 have HO : Hid (OneP TB nv size ⟨op, node, mode, tab, row, col, var, dst, eq, fro, upto, key, vals⟩ ↔ OneP TB nv size ⟨op, node, mode, tab, row, col, var, dst, eq, fro, upto, key, vals⟩) := Lib.hid Iff.rfl
 clear hk hv ht hfv
 go_enter Tryz.func79, Tryz.ntmps79
 go_upto_region 2 with (fail)
 rw [← hw1]
 have HW1 := Lib.hid hw1
 clear hw1
 go_cut [28] from 10 to 28 (fun v28 wx => ∃ b, v28 = .bool b ∧ (b = false ↔ BareOk ⟨op, node, mode, tab, row, col, var, dst, eq, fro, upto, key, vals⟩) ∧ Fr w1 wx Nil)
 case first =>
  have b0 := HB1.out.cell 0
  simp only [InstrD.cs, List.getElem?_cons_zero] at b0
  have k0 := KeptF.cell b0
  by_cases h1 : op < 1
  ·have d1 := decide_eq_true h1
   have HX : Hid (¬ BareOk ⟨op, node, mode, tab, row, col, var, dst, eq, fro, upto, key, vals⟩) := fun h => by have := h.1.1; simp only at this; omega
   refine wp_region_sink 18 (KeptF w1) (by kernel_rfl) ?_
   have hSa : KeptF w1 w1.drew := KeptF.start _
   refine tk 0 hSa ?_
   try simp only [Act.put, sA, sB, sC]
   refine tk 1 hSa ?_ (hy := by intro _ w; have ck0 := k0 _ w; go_simp <;> with_reducible rfl)
   try simp only [Act.put, sA, sB, sC]
   refine tk 2 hSa ?_
   refine tk 3 hSa ?_
   try simp only [Act.put, sA, sB, sC]
   refine wpAnyS_skip (i := 4) rfl (by kernel_rfl) (fun _ _ _ h => h) (by rfl) hSa ?_
   try simp only [Act.put, sA, sB, sC]
   refine wpAnyS_skip (i := 5) rfl (by kernel_rfl) (fun _ _ _ h => h) (by rfl) hSa ?_
   try simp only [Act.put, sA, sB, sC]
   refine wpAnyS_skip (i := 6) rfl (by kernel_rfl) (fun _ _ _ h => h) (by rfl) hSa ?_
   try simp only [Act.put, sA, sB, sC]
   refine tk 7 hSa ?_
   refine tk 8 hSa ?_
   try simp only [Act.put, sA, sB, sC]
   refine wpAnyS_skip (i := 9) rfl (by kernel_rfl) (fun _ _ _ h => h) (by rfl) hSa ?_
   try simp only [Act.put, sA, sB, sC]
   refine wpAnyS_skip (i := 10) rfl (by kernel_rfl) (fun _ _ _ h => h) (by rfl) hSa ?_
   try simp only [Act.put, sA, sB, sC]
   refine wpAnyS_skip (i := 11) rfl (by kernel_rfl) (fun _ _ _ h => h) (by rfl) hSa ?_
   try simp only [Act.put, sA, sB, sC]
   refine wpAnyS_skip (i := 12) rfl (by kernel_rfl) (fun _ _ _ h => h) (by rfl) hSa ?_
   try simp only [Act.put, sA, sB, sC]
   refine wpAnyS_skip (i := 13) rfl (by kernel_rfl) (fun _ _ _ h => h) (by rfl) hSa ?_
   try simp only [Act.put, sA, sB, sC]
   refine wpAnyS_skip (i := 14) rfl (by kernel_rfl) (fun _ _ _ h => h) (by rfl) hSa ?_
   try simp only [Act.put, sA, sB, sC]
   refine wpAnyS_skip (i := 15) rfl (by kernel_rfl) (fun _ _ _ h => h) (by rfl) hSa ?_
   try simp only [Act.put, sA, sB, sC]
   refine wpAnyS_skip (i := 16) rfl (by kernel_rfl) (fun _ _ _ h => h) (by rfl) hSa ?_
   try simp only [Act.put, sA, sB, sC]
   refine wpAnyS_skip (i := 17) rfl (by kernel_rfl) (fun _ _ _ h => h) (by rfl) hSa ?_
   try simp only [Act.put, sA, sB, sC]
   refine wpAnyS_last (i := 18) rfl (by kernel_rfl) (by decide) (by kernel_rfl) (by rfl) fun K hK => ?_
   go_simp
   refine hK.out _ _ ?_
   clear hK K
   have HF := Lib.hid hSa.fr
   clear hSa k0 b0 d1
   go_wp2_with fail
   go_meet
   case rel => exact ⟨true, rfl, ⟨fun h => Bool.noConfusion h, fun h => (HX.out h).elim⟩, HF.out⟩
  ·by_cases h2 : 16 < op
   ·have d1 : decide (op < 1) = false := decide_eq_false h1
    have d2 := decide_eq_true h2
    have HX : Hid (¬ BareOk ⟨op, node, mode, tab, row, col, var, dst, eq, fro, upto, key, vals⟩) := fun h => by have := h.1.2; simp only at this; omega
    refine wp_region_sink 18 (KeptF w1) (by kernel_rfl) ?_
    have hSa : KeptF w1 w1.drew := KeptF.start _
    refine tk 0 hSa ?_
    try simp only [Act.put, sA, sB, sC]
    refine tk 1 hSa ?_ (hy := by intro _ w; have ck0 := k0 _ w; go_simp <;> with_reducible rfl)
    try simp only [Act.put, sA, sB, sC]
    refine tk 2 hSa ?_
    refine tk 3 hSa ?_
    refine tk 4 hSa ?_
    try simp only [Act.put, sA, sB, sC]
    refine tk 5 hSa ?_ (hy := by intro _ w; have ck0 := k0 _ w; go_simp <;> with_reducible rfl)
    try simp only [Act.put, sA, sB, sC]
    refine tk 6 hSa ?_
    refine tk 7 hSa ?_
    refine tk 8 hSa ?_
    try simp only [Act.put, sA, sB, sC]
    refine wpAnyS_skip (i := 9) rfl (by kernel_rfl) (fun _ _ _ h => h) (by rfl) hSa ?_
    try simp only [Act.put, sA, sB, sC]
    refine wpAnyS_skip (i := 10) rfl (by kernel_rfl) (fun _ _ _ h => h) (by rfl) hSa ?_
    try simp only [Act.put, sA, sB, sC]
    refine wpAnyS_skip (i := 11) rfl (by kernel_rfl) (fun _ _ _ h => h) (by rfl) hSa ?_
    try simp only [Act.put, sA, sB, sC]
    refine wpAnyS_skip (i := 12) rfl (by kernel_rfl) (fun _ _ _ h => h) (by rfl) hSa ?_
    try simp only [Act.put, sA, sB, sC]
    refine wpAnyS_skip (i := 13) rfl (by kernel_rfl) (fun _ _ _ h => h) (by rfl) hSa ?_
    try simp only [Act.put, sA, sB, sC]
    refine wpAnyS_skip (i := 14) rfl (by kernel_rfl) (fun _ _ _ h => h) (by rfl) hSa ?_
    try simp only [Act.put, sA, sB, sC]
    refine wpAnyS_skip (i := 15) rfl (by kernel_rfl) (fun _ _ _ h => h) (by rfl) hSa ?_
    try simp only [Act.put, sA, sB, sC]
    refine wpAnyS_skip (i := 16) rfl (by kernel_rfl) (fun _ _ _ h => h) (by rfl) hSa ?_
    try simp only [Act.put, sA, sB, sC]
    refine wpAnyS_skip (i := 17) rfl (by kernel_rfl) (fun _ _ _ h => h) (by rfl) hSa ?_
    try simp only [Act.put, sA, sB, sC]
    refine wpAnyS_last (i := 18) rfl (by kernel_rfl) (by decide) (by kernel_rfl) (by rfl) fun K hK => ?_
    go_simp
    refine hK.out _ _ ?_
    clear hK K
    have HF := Lib.hid hSa.fr
    clear hSa k0 b0 d1
    go_wp2_with fail
    go_meet
    case rel => exact ⟨true, rfl, ⟨fun h => Bool.noConfusion h, fun h => (HX.out h).elim⟩, HF.out⟩
   ·have d1 : decide (op < 1) = false := decide_eq_false h1
    have d2 : decide (16 < op) = false := decide_eq_false h2
    have h1 : 1 ≤ op := by omega
    have h2 : op ≤ 16 := by omega
    obtain ⟨mka, mkc, hmk⟩ := (bareK_at (n := ⟨op, node, mode, tab, row, col, var, dst, eq, fro, upto, key, vals⟩) HK.out).shape
    obtain ⟨mva, mvc, hmv⟩ := (bareV_at (n := ⟨op, node, mode, tab, row, col, var, dst, eq, fro, upto, key, vals⟩) HV.out).shape
    have hmo : (bareI ⟨op, node, mode, tab, row, col, var, dst, eq, fro, upto, key, vals⟩).op = op := rfl
    have HD : Hid (∀ d, d = decide (NoneP (bareI ⟨op, node, mode, tab, row, col, var, dst, eq, fro, upto, key, vals⟩)) → (d = true ↔ BareOk ⟨op, node, mode, tab, row, col, var, dst, eq, fro, upto, key, vals⟩)) := fun d hd => by rw [hd, decide_eq_true_iff]; exact ⟨fun h => ⟨⟨h1, h2⟩, h⟩, fun h => h.2⟩
    have HM : Hid (∀ e W W', BareRet ⟨op, node, mode, tab, row, col, var, dst, eq, fro, upto, key, vals⟩ (.slice ka key.length kc) (.slice va vals.length vc) W e W' → e = .returned ((bareI ⟨op, node, mode, tab, row, col, var, dst, eq, fro, upto, key, vals⟩).val (.slice mka (bareI ⟨op, node, mode, tab, row, col, var, dst, eq, fro, upto, key, vals⟩).key.length mkc) (.slice mva (bareI ⟨op, node, mode, tab, row, col, var, dst, eq, fro, upto, key, vals⟩).vals.length mvc)) ∧ Fr W W' Nil) := fun e W W' h => ⟨by rw [h.1, hmk, hmv], h.2⟩
    clear hmk hmv
    have HD := HD.out _ rfl
    have HM := HM.out
    generalize bareI ⟨op, node, mode, tab, row, col, var, dst, eq, fro, upto, key, vals⟩ = m at HD HM hmo
    obtain ⟨mop, mnode, mmode, mtab, mrow, mcol, mvar, mdst, meq, mfro, mupto, mkey, mvals⟩ := m
    simp only at hmo HM
    obtain rfl : op = mop := hmo.symm
    simp only [InstrD.val] at HM
    have HM := Lib.hid HM
    have k1 := KeptF.cell (w0 := w1) (show w1.cell? ⟨w.heap.size, 1, none⟩ = some _ from HB1.out.cell 1)
    have k2 := KeptF.cell (w0 := w1) (show w1.cell? ⟨w.heap.size, 2, none⟩ = some _ from HB1.out.cell 2)
    have k3 := KeptF.cell (w0 := w1) (show w1.cell? ⟨w.heap.size, 3, none⟩ = some _ from HB1.out.cell 3)
    have k4 := KeptF.cell (w0 := w1) (show w1.cell? ⟨w.heap.size, 4, none⟩ = some _ from HB1.out.cell 4)
    have k5 := KeptF.cell (w0 := w1) (show w1.cell? ⟨w.heap.size, 5, none⟩ = some _ from HB1.out.cell 5)
    have k6 := KeptF.cell (w0 := w1) (show w1.cell? ⟨w.heap.size, 6, none⟩ = some _ from HB1.out.cell 6)
    have k7 := KeptF.cell (w0 := w1) (show w1.cell? ⟨w.heap.size, 7, none⟩ = some _ from HB1.out.cell 7)
    have k8 := KeptF.cell (w0 := w1) (show w1.cell? ⟨w.heap.size, 8, none⟩ = some _ from HB1.out.cell 8)
    have k9 := KeptF.cell (w0 := w1) (show w1.cell? ⟨w.heap.size, 9, none⟩ = some _ from HB1.out.cell 9)
    have k10 := KeptF.cell (w0 := w1) (show w1.cell? ⟨w.heap.size, 10, none⟩ = some _ from HB1.out.cell 10)
    have k11 := KeptF.cell (w0 := w1) (show w1.cell? ⟨w.heap.size, 11, none⟩ = some _ from HB1.out.cell 11)
    have k12 := KeptF.cell (w0 := w1) (show w1.cell? ⟨w.heap.size, 12, none⟩ = some _ from HB1.out.cell 12)
    refine wp_region_sink 18 (KeptF w1) (by kernel_rfl) ?_
    have hSa : KeptF w1 w1.drew := KeptF.start _
    refine tk 0 hSa ?_
    try simp only [Act.put, sA, sB, sC]
    refine tk 1 hSa ?_ (hy := by intro _ w; have ck0 := k0 _ w; go_simp <;> with_reducible rfl)
    try simp only [Act.put, sA, sB, sC]
    refine tk 2 hSa ?_
    refine tk 3 hSa ?_
    refine tk 4 hSa ?_
    try simp only [Act.put, sA, sB, sC]
    refine tk 5 hSa ?_ (hy := by intro _ w; have ck0 := k0 _ w; go_simp <;> with_reducible rfl)
    try simp only [Act.put, sA, sB, sC]
    refine tk 6 hSa ?_
    refine tk 7 hSa ?_
    refine tk 8 hSa ?_
    try simp only [Act.put, sA, sB, sC]
    refine tk 9 hSa ?_ (hy := by intro _ w; have ck0 := k0 _ w; have ck1 := k1 _ w; have ck2 := k2 _ w; have ck3 := k3 _ w; have ck4 := k4 _ w; have ck5 := k5 _ w; have ck6 := k6 _ w; have ck7 := k7 _ w; have ck8 := k8 _ w; have ck9 := k9 _ w; have ck10 := k10 _ w; have ck11 := k11 _ w; have ck12 := k12 _ w; go_simp <;> with_reducible rfl)
    try simp only [Act.put, sA, sB, sC]
    refine tk 12 hSa ?_
    try simp only [Act.put, sA, sB, sC]
    refine tk 13 hSa ?_ (hy := by intro _ w; have ck0 := k0 _ w; go_simp <;> with_reducible rfl)
    try simp only [Act.put, sA, sB, sC]
    refine tk 14 hSa ?_
    try simp only [Act.put, sA, sB, sC]
    refine wpAnyS_two (i := 10) (j := 15) rfl rfl (by kernel_rfl) (by decide) (by decide) (by rfl) (by rfl) (fun K hK => ?_) (fun K hK => ?_)
    ·go_simp
     refine (bare_any ⟨op, node, mode, tab, row, col, var, dst, eq, fro, upto, key, vals⟩ _ _ _ h1 h2 (HK.out.fr0 (KeptF.fr hSa)) (HV.out.fr0 (KeptF.fr hSa))).mono ?_
     intro e w2 hbr
     obtain ⟨rfl, hf2⟩ := HM.out _ _ _ hbr
     clear hbr
     have hSb := KeptF.next hSa hf2
     refine hK.out _ _ hSb ?_
     clear hK K
     try simp only [Act.put, sA, sB, sC]
     refine wpAnyS_two (i := 11) (j := 15) rfl rfl (by kernel_rfl) (by decide) (by decide) (by rfl) (by rfl) (fun K hK => ?_) (fun K hK => ?_)
     ·go_simp
      have hSc := KeptF.next hSb ((Fr.refl w2 Nil).alloc (.cells #[.int .u8 op, .int .i64 mnode, .int .u8 mmode, .int .i64 mtab, .bool mrow, .int .i64 mcol, .int .i64 mvar, .int .i64 mdst, .bool meq, .int .i64 mfro, .int .i64 mupto, .slice mka mkey.length mkc, .slice mva mvals.length mvc] 81))
      refine hK.out _ _ hSc ?_
      clear hK K
      try simp only [Act.put, sA, sB, sC]
      refine on1 15 fun K hK => ?_
      go_simp
      have hSd := KeptF.next hSc ((Fr.refl _ Nil).alloc (.cells #[.int .u8 op, .int .i64 0, .int .u8 0, .int .i64 0, .bool false, .int .i64 0, .int .i64 0, .int .i64 0, .bool false, .int .i64 0, .int .i64 0, .slice none 0 0, .slice none 0 0] 81))
      refine hK.out _ _ hSd ?_
      clear hK K
      try simp only [Act.put, sA, sB, sC]
      obtain ⟨ha, hb⟩ := two_new w2 81 #[.int .u8 op, .int .i64 mnode, .int .u8 mmode, .int .i64 mtab, .bool mrow, .int .i64 mcol, .int .i64 mvar, .int .i64 mdst, .bool meq, .int .i64 mfro, .int .i64 mupto, .slice mka mkey.length mkc, .slice mva mvals.length mvc] #[.int .u8 op, .int .i64 0, .int .u8 0, .int .i64 0, .bool false, .int .i64 0, .int .i64 0, .int .i64 0, .bool false, .int .i64 0, .int .i64 0, .slice none 0 0, .slice none 0 0]
      refine on1 16 fun K hK => ?_
      go_simp
      refine (csame_any ⟨op, mnode, mmode, mtab, mrow, mcol, mvar, mdst, meq, mfro, mupto, mkey, mvals⟩ mka mva mkc mvc _ _ 1 1 _ ha hb).mono ?_
      rintro e w9 ⟨rfl, hf9⟩
      have hS9 := KeptF.next hSd hf9
      refine hK.out _ _ hS9 ?_
      clear hK K
      try simp only [Act.put, sA, sB, sC]
      generalize decide (NoneP ⟨op, mnode, mmode, mtab, mrow, mcol, mvar, mdst, meq, mfro, mupto, mkey, mvals⟩) = d at HD ⊢
      refine tk 17 hS9 ?_
      try simp only [Act.put, sA, sB, sC]
      refine wpAnyS_last (i := 18) rfl (by kernel_rfl) (by decide) (by kernel_rfl) (by rfl) fun K hK => ?_
      go_simp
      refine hK.out _ _ ?_
      clear hK K
      have HF := Lib.hid (KeptF.fr hS9)
      have HD := Lib.hid HD
      clear k0 k1 k2 k3 k4 k5 k6 k7 k8 k9 k10 k11 k12 hS9 hSa d1 d2
      go_wp2_with fail
      go_meet
      case rel => exact ⟨!d, rfl, by rw [← HD.out]; cases d <;> simp, HF.out⟩
     ·go_simp
      have hSc := KeptF.next hSb ((Fr.refl w2 Nil).alloc (.cells #[.int .u8 op, .int .i64 0, .int .u8 0, .int .i64 0, .bool false, .int .i64 0, .int .i64 0, .int .i64 0, .bool false, .int .i64 0, .int .i64 0, .slice none 0 0, .slice none 0 0] 81))
      refine hK.out _ _ hSc ?_
      clear hK K
      try simp only [Act.put, sA, sB, sC]
      refine on1 11 fun K hK => ?_
      go_simp
      have hSd := KeptF.next hSc ((Fr.refl _ Nil).alloc (.cells #[.int .u8 op, .int .i64 mnode, .int .u8 mmode, .int .i64 mtab, .bool mrow, .int .i64 mcol, .int .i64 mvar, .int .i64 mdst, .bool meq, .int .i64 mfro, .int .i64 mupto, .slice mka mkey.length mkc, .slice mva mvals.length mvc] 81))
      refine hK.out _ _ hSd ?_
      clear hK K
      try simp only [Act.put, sA, sB, sC]
      obtain ⟨hb, ha⟩ := two_new w2 81 #[.int .u8 op, .int .i64 0, .int .u8 0, .int .i64 0, .bool false, .int .i64 0, .int .i64 0, .int .i64 0, .bool false, .int .i64 0, .int .i64 0, .slice none 0 0, .slice none 0 0] #[.int .u8 op, .int .i64 mnode, .int .u8 mmode, .int .i64 mtab, .bool mrow, .int .i64 mcol, .int .i64 mvar, .int .i64 mdst, .bool meq, .int .i64 mfro, .int .i64 mupto, .slice mka mkey.length mkc, .slice mva mvals.length mvc]
      refine on1 16 fun K hK => ?_
      go_simp
      refine (csame_any ⟨op, mnode, mmode, mtab, mrow, mcol, mvar, mdst, meq, mfro, mupto, mkey, mvals⟩ mka mva mkc mvc _ _ 1 1 _ ha hb).mono ?_
      rintro e w9 ⟨rfl, hf9⟩
      have hS9 := KeptF.next hSd hf9
      refine hK.out _ _ hS9 ?_
      clear hK K
      try simp only [Act.put, sA, sB, sC]
      generalize decide (NoneP ⟨op, mnode, mmode, mtab, mrow, mcol, mvar, mdst, meq, mfro, mupto, mkey, mvals⟩) = d at HD ⊢
      refine tk 17 hS9 ?_
      try simp only [Act.put, sA, sB, sC]
      refine wpAnyS_last (i := 18) rfl (by kernel_rfl) (by decide) (by kernel_rfl) (by rfl) fun K hK => ?_
      go_simp
      refine hK.out _ _ ?_
      clear hK K
      have HF := Lib.hid (KeptF.fr hS9)
      have HD := Lib.hid HD
      clear k0 k1 k2 k3 k4 k5 k6 k7 k8 k9 k10 k11 k12 hS9 hSa d1 d2
      go_wp2_with fail
      go_meet
      case rel => exact ⟨!d, rfl, by rw [← HD.out]; cases d <;> simp, HF.out⟩
    ·go_simp
     have hSb := KeptF.next hSa ((Fr.refl w1.drew Nil).alloc (.cells #[.int .u8 op, .int .i64 0, .int .u8 0, .int .i64 0, .bool false, .int .i64 0, .int .i64 0, .int .i64 0, .bool false, .int .i64 0, .int .i64 0, .slice none 0 0, .slice none 0 0] 81))
     refine hK.out _ _ hSb ?_
     clear hK K
     try simp only [Act.put, sA, sB, sC]
     have hb0 := Bk.new w1.drew 81 #[.int .u8 op, .int .i64 0, .int .u8 0, .int .i64 0, .bool false, .int .i64 0, .int .i64 0, .int .i64 0, .bool false, .int .i64 0, .int .i64 0, .slice none 0 0, .slice none 0 0]
     refine on1 10 fun K hK => ?_
     go_simp
     refine (bare_any ⟨op, node, mode, tab, row, col, var, dst, eq, fro, upto, key, vals⟩ _ _ _ h1 h2 (HK.out.fr0 (KeptF.fr hSb)) (HV.out.fr0 (KeptF.fr hSb))).mono ?_
     intro e w2 hbr
     obtain ⟨rfl, hf2⟩ := HM.out _ _ _ hbr
     clear hbr
     have hSc := KeptF.next hSb hf2
     refine hK.out _ _ hSc ?_
     clear hK K
     try simp only [Act.put, sA, sB, sC]
     have hb1 := hb0.fr hf2 (fun h => h)
     refine on1 11 fun K hK => ?_
     go_simp
     have hSd := KeptF.next hSc ((Fr.refl w2 Nil).alloc (.cells #[.int .u8 op, .int .i64 mnode, .int .u8 mmode, .int .i64 mtab, .bool mrow, .int .i64 mcol, .int .i64 mvar, .int .i64 mdst, .bool meq, .int .i64 mfro, .int .i64 mupto, .slice mka mkey.length mkc, .slice mva mvals.length mvc] 81))
     refine hK.out _ _ hSd ?_
     clear hK K
     try simp only [Act.put, sA, sB, sC]
     have ha := Bk.new w2 81 #[.int .u8 op, .int .i64 mnode, .int .u8 mmode, .int .i64 mtab, .bool mrow, .int .i64 mcol, .int .i64 mvar, .int .i64 mdst, .bool meq, .int .i64 mfro, .int .i64 mupto, .slice mka mkey.length mkc, .slice mva mvals.length mvc]
     have hb := hb1.alloc (.cells #[.int .u8 op, .int .i64 mnode, .int .u8 mmode, .int .i64 mtab, .bool mrow, .int .i64 mcol, .int .i64 mvar, .int .i64 mdst, .bool meq, .int .i64 mfro, .int .i64 mupto, .slice mka mkey.length mkc, .slice mva mvals.length mvc] 81)
     refine on1 16 fun K hK => ?_
     go_simp
     refine (csame_any ⟨op, mnode, mmode, mtab, mrow, mcol, mvar, mdst, meq, mfro, mupto, mkey, mvals⟩ mka mva mkc mvc _ _ 1 1 _ ha hb).mono ?_
     rintro e w9 ⟨rfl, hf9⟩
     have hS9 := KeptF.next hSd hf9
     refine hK.out _ _ hS9 ?_
     clear hK K
     try simp only [Act.put, sA, sB, sC]
     generalize decide (NoneP ⟨op, mnode, mmode, mtab, mrow, mcol, mvar, mdst, meq, mfro, mupto, mkey, mvals⟩) = d at HD ⊢
     refine tk 17 hS9 ?_
     try simp only [Act.put, sA, sB, sC]
     refine wpAnyS_last (i := 18) rfl (by kernel_rfl) (by decide) (by kernel_rfl) (by rfl) fun K hK => ?_
     go_simp
     refine hK.out _ _ ?_
     clear hK K
     have HF := Lib.hid (KeptF.fr hS9)
     have HD := Lib.hid HD
     clear k0 k1 k2 k3 k4 k5 k6 k7 k8 k9 k10 k11 k12 hS9 hSa d1 d2
     go_wp2_with fail
     go_meet
     case rel => exact ⟨!d, rfl, by rw [← HD.out]; cases d <;> simp, HF.out⟩
 case rest =>
  obtain ⟨b, rfl, hb, hf⟩ := hcut
  have HR2 := Lib.hid hb
  have HF2 := Lib.hid hf
  clear hb hf
  cases b
  rotate_left
  ·go_wp2_with fail
   go_ret
   exact ⟨false, rfl, ⟨fun h => Bool.noConfusion h, fun h => Bool.noConfusion (HR2.out.2 ⟨h.op, (bareok_iff h.op.1 h.op.2).2 h.bare⟩)⟩, HF1.out.trans0 HF2.out⟩
  ·have HBO := Lib.hid (HR2.out.1 rfl)
   have hop1 := HBO.out.1.1
   have hop2 := HBO.out.1.2
   simp only at hop1 hop2
   clear HR2
   go_upto_region 4 with (fail)
   go_cut [67] from 29 to 67 (fun v67 wx => ∃ b, v67 = .bool b ∧ (b = false ↔ TabP TB ⟨op, node, mode, tab, row, col, var, dst, eq, fro, upto, key, vals⟩ ∧ ColP TB ⟨op, node, mode, tab, row, col, var, dst, eq, fro, upto, key, vals⟩) ∧ Fr wc wx Nil)
   case first =>
    have c0 := (HB1.out.fr HF2.out fun h => h).cell 0
    have c3 := (HB1.out.fr HF2.out fun h => h).cell 3
    have c5 := (HB1.out.fr HF2.out fun h => h).cell 5
    simp only [InstrD.cs, List.getElem?_cons_zero, List.getElem?_cons_succ] at c0 c3 c5
    by_cases h7 : op ≤ 7
    rotate_left
    ·have HX : Hid (TabP TB ⟨op, node, mode, tab, row, col, var, dst, eq, fro, upto, key, vals⟩ ∧ ColP TB ⟨op, node, mode, tab, row, col, var, dst, eq, fro, upto, key, vals⟩) := ⟨fun h => absurd h h7, fun h => absurd h (by simp only; omega)⟩
     have e7 : decide (op ≤ 7) = false := decide_eq_false h7
     have e3 : (op == 3) = false := by rw [beq_eq_false_iff_ne]; omega
     have e4 : (op == 4) = false := by rw [beq_eq_false_iff_ne]; omega
     have e77 : (op == 7) = false := by rw [beq_eq_false_iff_ne]; omega
     go_quiet (fail)
     rename_i nq
     go_wp2_with fail
     go_meet
     case rel => exact ⟨false, rfl, ⟨fun _ => HX.out, fun _ => rfl⟩, (Fr.refl wc Nil).drewN _⟩
    have e7 : decide (op ≤ 7) = true := decide_eq_true h7
    cases hin : inB tab TB.length
    ·have HX : Hid (¬ (TabP TB ⟨op, node, mode, tab, row, col, var, dst, eq, fro, upto, key, vals⟩ ∧ ColP TB ⟨op, node, mode, tab, row, col, var, dst, eq, fro, upto, key, vals⟩)) := fun h => by have h := h.1 h7; unfold inB at hin; simp only at h; simp [h.1, h.2] at hin
     go_quiet ((first | (go_at_call 107; exact Calls.quiet_of_same (in_of _ _ _ false hin))))
     rename_i nq
     go_wp2_with fail
     go_meet
     case rel => exact ⟨true, rfl, ⟨fun h => Bool.noConfusion h, fun h => (HX.out h).elim⟩, (Fr.refl wc Nil).drewN _⟩
    have HIN := Lib.hid hin
    have htb : 0 ≤ tab ∧ tab < TB.length := by unfold inB at hin; simpa using hin
    obtain ⟨m, rfl⟩ : ∃ m : Nat, tab = (m : Int) := ⟨tab.toNat, by omega⟩
    have hm : m < TB.length := by omega
    have HTP : Hid (TabP TB ⟨op, node, mode, m, row, col, var, dst, eq, fro, upto, key, vals⟩) := fun _ => htb
    by_cases hc : op = 3 ∨ op = 4 ∨ op = 7
    rotate_left
    ·have HX : Hid (TabP TB ⟨op, node, mode, m, row, col, var, dst, eq, fro, upto, key, vals⟩ ∧ ColP TB ⟨op, node, mode, m, row, col, var, dst, eq, fro, upto, key, vals⟩) := ⟨HTP.out, fun h => absurd h hc⟩
     have e3 : (op == 3) = false := by rw [beq_eq_false_iff_ne]; omega
     have e4 : (op == 4) = false := by rw [beq_eq_false_iff_ne]; omega
     have e77 : (op == 7) = false := by rw [beq_eq_false_iff_ne]; omega
     clear hc htb
     go_quiet ((first | (go_at_call 107; exact Calls.quiet_of_same (in_of _ _ _ true HIN.out))))
     rename_i nq
     go_wp2_with fail
     go_meet
     case rel => exact ⟨false, rfl, ⟨fun _ => HX.out, fun _ => rfl⟩, (Fr.refl wc Nil).drewN _⟩
    obtain ⟨tb, toff, tcap2, htv, htc⟩ := (HT.out.fr0 (HF1.out.trans0 HF2.out)).form (by omega)
    simp only [Value.slice.injEq, true_and] at htv
    obtain ⟨rfl, rfl⟩ := htv
    have hgt := List.getElem?_eq_getElem hm
    have q0 := htc m _ hgt
    have HG : Hid (TB.getD m 0 = TB[m]) := by rw [List.getD_eq_getElem?_getD, hgt]; exact Lib.hid rfl
    generalize TB[m] = x at q0 HG
    clear htc hgt htb hin
    cases hin2 : inB col x
    ·have HX : Hid (¬ (TabP TB ⟨op, node, mode, m, row, col, var, dst, eq, fro, upto, key, vals⟩ ∧ ColP TB ⟨op, node, mode, m, row, col, var, dst, eq, fro, upto, key, vals⟩)) := fun h => by have h := h.2 hc; unfold inB at hin2; simp only [Int.toNat_natCast, HG.out] at h; simp [h.1, h.2] at hin2
     have HIN2 := Lib.hid hin2
     clear hin2
     rcases hc with rfl | rfl | rfl
     ·go_quiet ((first | (go_at_call 107; exact Calls.quiet_of_same (in_of _ _ _ true HIN.out)) | (go_at_call 107; exact Calls.quiet_of_same (in_of _ _ _ false HIN2.out))))
      rename_i nq
      go_wp2_with fail
      go_meet
      case rel => exact ⟨true, rfl, ⟨fun h => Bool.noConfusion h, fun h => (HX.out h).elim⟩, (Fr.refl wc Nil).drewN _⟩
     ·go_quiet ((first | (go_at_call 107; exact Calls.quiet_of_same (in_of _ _ _ true HIN.out)) | (go_at_call 107; exact Calls.quiet_of_same (in_of _ _ _ false HIN2.out))))
      rename_i nq
      go_wp2_with fail
      go_meet
      case rel => exact ⟨true, rfl, ⟨fun h => Bool.noConfusion h, fun h => (HX.out h).elim⟩, (Fr.refl wc Nil).drewN _⟩
     ·go_quiet ((first | (go_at_call 107; exact Calls.quiet_of_same (in_of _ _ _ true HIN.out)) | (go_at_call 107; exact Calls.quiet_of_same (in_of _ _ _ false HIN2.out))))
      rename_i nq
      go_wp2_with fail
      go_meet
      case rel => exact ⟨true, rfl, ⟨fun h => Bool.noConfusion h, fun h => (HX.out h).elim⟩, (Fr.refl wc Nil).drewN _⟩
    have HX : Hid (TabP TB ⟨op, node, mode, m, row, col, var, dst, eq, fro, upto, key, vals⟩ ∧ ColP TB ⟨op, node, mode, m, row, col, var, dst, eq, fro, upto, key, vals⟩) := ⟨HTP.out, fun _ => by unfold inB at hin2; simp only [Int.toNat_natCast, HG.out]; simpa using hin2⟩
    have HIN2 := Lib.hid hin2
    clear hin2
    rcases hc with rfl | rfl | rfl
    ·go_quiet ((first | (go_at_call 107; exact Calls.quiet_of_same (in_of _ _ _ true HIN.out)) | (go_at_call 107; exact Calls.quiet_of_same (in_of _ _ _ true HIN2.out))))
     rename_i nq
     go_wp2_with fail
     go_meet
     case rel => exact ⟨false, rfl, ⟨fun _ => HX.out, fun _ => rfl⟩, (Fr.refl wc Nil).drewN _⟩
    ·go_quiet ((first | (go_at_call 107; exact Calls.quiet_of_same (in_of _ _ _ true HIN.out)) | (go_at_call 107; exact Calls.quiet_of_same (in_of _ _ _ true HIN2.out))))
     rename_i nq
     go_wp2_with fail
     go_meet
     case rel => exact ⟨false, rfl, ⟨fun _ => HX.out, fun _ => rfl⟩, (Fr.refl wc Nil).drewN _⟩
    ·go_quiet ((first | (go_at_call 107; exact Calls.quiet_of_same (in_of _ _ _ true HIN.out)) | (go_at_call 107; exact Calls.quiet_of_same (in_of _ _ _ true HIN2.out))))
     rename_i nq
     go_wp2_with fail
     go_meet
     case rel => exact ⟨false, rfl, ⟨fun _ => HX.out, fun _ => rfl⟩, (Fr.refl wc Nil).drewN _⟩
   case rest =>
    obtain ⟨b, rfl, hb, hf⟩ := hcut
    have HR4 := Lib.hid hb
    have HF4 := Lib.hid (HF2.out.trans0 hf)
    obtain ⟨w4, rfl⟩ : ∃ w4 : World, w4 = wc := ⟨_, rfl⟩
    clear hb hf
    cases b
    rotate_left
    ·go_wp2_with fail
     go_ret
     exact ⟨false, rfl, ⟨fun h => Bool.noConfusion h, fun h => Bool.noConfusion (HR4.out.2 ⟨h.tab, h.col⟩)⟩, HF1.out.trans0 HF4.out⟩
    have HT4 := Lib.hid (HR4.out.1 rfl)
    clear HR4
    go_upto_region 6 with (fail)
    go_cut [116] from 68 to 116 (fun v wx => ∃ b, v = .bool b ∧ (b = false ↔ VarP nv ⟨op, node, mode, tab, row, col, var, dst, eq, fro, upto, key, vals⟩ ∧ DstP size ⟨op, node, mode, tab, row, col, var, dst, eq, fro, upto, key, vals⟩) ∧ Fr w4 wx Nil)
    case first =>
     have c0 := (HB1.out.fr HF4.out fun h => h).cell 0
     have c6 := (HB1.out.fr HF4.out fun h => h).cell 6
     have c7 := (HB1.out.fr HF4.out fun h => h).cell 7
     simp only [InstrD.cs, List.getElem?_cons_zero, List.getElem?_cons_succ] at c0 c6 c7
     by_cases q3 : op = 3
     ·subst q3
      cases hin : inB var nv
      ·have HX : Hid (¬ (VarP nv ⟨3, node, mode, tab, row, col, var, dst, eq, fro, upto, key, vals⟩ ∧ DstP size ⟨3, node, mode, tab, row, col, var, dst, eq, fro, upto, key, vals⟩)) := fun h => by have h := h.1 (by simp); unfold inB at hin; simp only at h; simp [h.1, h.2] at hin
       have HIN := Lib.hid hin
       clear hin
       go_wp2_with fail
       refine (in_of _ _ _ false HIN.out).mono ?_
       rintro e w9 ⟨rfl, rfl⟩
       go_wp2_with fail
       go_meet
       case rel => exact ⟨true, rfl, ⟨fun h => Bool.noConfusion h, fun h => (HX.out h).elim⟩, Fr.refl _ _⟩
      ·have HX : Hid (VarP nv ⟨3, node, mode, tab, row, col, var, dst, eq, fro, upto, key, vals⟩ ∧ DstP size ⟨3, node, mode, tab, row, col, var, dst, eq, fro, upto, key, vals⟩) := ⟨fun _ => by unfold inB at hin; simpa using hin, fun h => absurd h (by simp)⟩
       have HIN := Lib.hid hin
       clear hin
       go_wp2_with fail
       refine (in_of _ _ _ true HIN.out).mono ?_
       rintro e w9 ⟨rfl, rfl⟩
       go_wp2_with fail
       go_meet
       case rel => exact ⟨false, rfl, ⟨fun _ => HX.out, fun _ => rfl⟩, Fr.refl _ _⟩
     by_cases q7 : op = 7
     ·subst q7
      cases hin : inB var nv
      ·have HX : Hid (¬ (VarP nv ⟨7, node, mode, tab, row, col, var, dst, eq, fro, upto, key, vals⟩ ∧ DstP size ⟨7, node, mode, tab, row, col, var, dst, eq, fro, upto, key, vals⟩)) := fun h => by have h := h.1 (by simp); unfold inB at hin; simp only at h; simp [h.1, h.2] at hin
       have HIN := Lib.hid hin
       clear hin
       go_wp2_with fail
       refine (in_of _ _ _ false HIN.out).mono ?_
       rintro e w9 ⟨rfl, rfl⟩
       go_wp2_with fail
       go_meet
       case rel => exact ⟨true, rfl, ⟨fun h => Bool.noConfusion h, fun h => (HX.out h).elim⟩, Fr.refl _ _⟩
      ·have HX : Hid (VarP nv ⟨7, node, mode, tab, row, col, var, dst, eq, fro, upto, key, vals⟩ ∧ DstP size ⟨7, node, mode, tab, row, col, var, dst, eq, fro, upto, key, vals⟩) := ⟨fun _ => by unfold inB at hin; simpa using hin, fun h => absurd h (by simp)⟩
       have HIN := Lib.hid hin
       clear hin
       go_wp2_with fail
       refine (in_of _ _ _ true HIN.out).mono ?_
       rintro e w9 ⟨rfl, rfl⟩
       go_wp2_with fail
       go_meet
       case rel => exact ⟨false, rfl, ⟨fun _ => HX.out, fun _ => rfl⟩, Fr.refl _ _⟩
     by_cases q8 : op = 8
     ·subst q8
      cases hin : inB var nv
      ·have HX : Hid (¬ (VarP nv ⟨8, node, mode, tab, row, col, var, dst, eq, fro, upto, key, vals⟩ ∧ DstP size ⟨8, node, mode, tab, row, col, var, dst, eq, fro, upto, key, vals⟩)) := fun h => by have h := h.1 (by simp); unfold inB at hin; simp only at h; simp [h.1, h.2] at hin
       have HIN := Lib.hid hin
       clear hin
       go_wp2_with fail
       refine (in_of _ _ _ false HIN.out).mono ?_
       rintro e w9 ⟨rfl, rfl⟩
       go_wp2_with fail
       go_meet
       case rel => exact ⟨true, rfl, ⟨fun h => Bool.noConfusion h, fun h => (HX.out h).elim⟩, Fr.refl _ _⟩
      ·have HX : Hid (VarP nv ⟨8, node, mode, tab, row, col, var, dst, eq, fro, upto, key, vals⟩ ∧ DstP size ⟨8, node, mode, tab, row, col, var, dst, eq, fro, upto, key, vals⟩) := ⟨fun _ => by unfold inB at hin; simpa using hin, fun h => absurd h (by simp)⟩
       have HIN := Lib.hid hin
       clear hin
       go_wp2_with fail
       refine (in_of _ _ _ true HIN.out).mono ?_
       rintro e w9 ⟨rfl, rfl⟩
       go_wp2_with fail
       go_meet
       case rel => exact ⟨false, rfl, ⟨fun _ => HX.out, fun _ => rfl⟩, Fr.refl _ _⟩
     by_cases q12 : op = 12
     ·subst q12
      cases hin : inB var nv
      ·have HX : Hid (¬ (VarP nv ⟨12, node, mode, tab, row, col, var, dst, eq, fro, upto, key, vals⟩ ∧ DstP size ⟨12, node, mode, tab, row, col, var, dst, eq, fro, upto, key, vals⟩)) := fun h => by have h := h.1 (by simp); unfold inB at hin; simp only at h; simp [h.1, h.2] at hin
       have HIN := Lib.hid hin
       clear hin
       go_wp2_with fail
       refine (in_of _ _ _ false HIN.out).mono ?_
       rintro e w9 ⟨rfl, rfl⟩
       go_wp2_with fail
       go_meet
       case rel => exact ⟨true, rfl, ⟨fun h => Bool.noConfusion h, fun h => (HX.out h).elim⟩, Fr.refl _ _⟩
      cases hin2 : inB dst size
      ·have HX : Hid (¬ (VarP nv ⟨12, node, mode, tab, row, col, var, dst, eq, fro, upto, key, vals⟩ ∧ DstP size ⟨12, node, mode, tab, row, col, var, dst, eq, fro, upto, key, vals⟩)) := fun h => by have h := h.2 (by simp); unfold inB at hin2; simp only at h; simp [h.1, h.2] at hin2
       have HIN := Lib.hid hin
       have HIN2 := Lib.hid hin2
       clear hin hin2
       go_wp2_with fail
       refine (in_of _ _ _ true HIN.out).mono ?_
       rintro e w9 ⟨rfl, rfl⟩
       go_wp2_with fail
       refine (in_of _ _ _ false HIN2.out).mono ?_
       rintro e w9 ⟨rfl, rfl⟩
       go_wp2_with fail
       go_meet
       case rel => exact ⟨true, rfl, ⟨fun h => Bool.noConfusion h, fun h => (HX.out h).elim⟩, Fr.refl _ _⟩
      ·have HX : Hid (VarP nv ⟨12, node, mode, tab, row, col, var, dst, eq, fro, upto, key, vals⟩ ∧ DstP size ⟨12, node, mode, tab, row, col, var, dst, eq, fro, upto, key, vals⟩) := ⟨fun _ => by unfold inB at hin; simpa using hin, fun _ => by unfold inB at hin2; simpa using hin2⟩
       have HIN := Lib.hid hin
       have HIN2 := Lib.hid hin2
       clear hin hin2
       go_wp2_with fail
       refine (in_of _ _ _ true HIN.out).mono ?_
       rintro e w9 ⟨rfl, rfl⟩
       go_wp2_with fail
       refine (in_of _ _ _ true HIN2.out).mono ?_
       rintro e w9 ⟨rfl, rfl⟩
       go_wp2_with fail
       go_meet
       case rel => exact ⟨false, rfl, ⟨fun _ => HX.out, fun _ => rfl⟩, Fr.refl _ _⟩
     by_cases q13 : op = 13
     ·subst q13
      cases hin : inB var nv
      ·have HX : Hid (¬ (VarP nv ⟨13, node, mode, tab, row, col, var, dst, eq, fro, upto, key, vals⟩ ∧ DstP size ⟨13, node, mode, tab, row, col, var, dst, eq, fro, upto, key, vals⟩)) := fun h => by have h := h.1 (by simp); unfold inB at hin; simp only at h; simp [h.1, h.2] at hin
       have HIN := Lib.hid hin
       clear hin
       go_wp2_with fail
       refine (in_of _ _ _ false HIN.out).mono ?_
       rintro e w9 ⟨rfl, rfl⟩
       go_wp2_with fail
       go_meet
       case rel => exact ⟨true, rfl, ⟨fun h => Bool.noConfusion h, fun h => (HX.out h).elim⟩, Fr.refl _ _⟩
      cases hin2 : inB dst size
      ·have HX : Hid (¬ (VarP nv ⟨13, node, mode, tab, row, col, var, dst, eq, fro, upto, key, vals⟩ ∧ DstP size ⟨13, node, mode, tab, row, col, var, dst, eq, fro, upto, key, vals⟩)) := fun h => by have h := h.2 (by simp); unfold inB at hin2; simp only at h; simp [h.1, h.2] at hin2
       have HIN := Lib.hid hin
       have HIN2 := Lib.hid hin2
       clear hin hin2
       go_wp2_with fail
       refine (in_of _ _ _ true HIN.out).mono ?_
       rintro e w9 ⟨rfl, rfl⟩
       go_wp2_with fail
       refine (in_of _ _ _ false HIN2.out).mono ?_
       rintro e w9 ⟨rfl, rfl⟩
       go_wp2_with fail
       go_meet
       case rel => exact ⟨true, rfl, ⟨fun h => Bool.noConfusion h, fun h => (HX.out h).elim⟩, Fr.refl _ _⟩
      ·have HX : Hid (VarP nv ⟨13, node, mode, tab, row, col, var, dst, eq, fro, upto, key, vals⟩ ∧ DstP size ⟨13, node, mode, tab, row, col, var, dst, eq, fro, upto, key, vals⟩) := ⟨fun _ => by unfold inB at hin; simpa using hin, fun _ => by unfold inB at hin2; simpa using hin2⟩
       have HIN := Lib.hid hin
       have HIN2 := Lib.hid hin2
       clear hin hin2
       go_wp2_with fail
       refine (in_of _ _ _ true HIN.out).mono ?_
       rintro e w9 ⟨rfl, rfl⟩
       go_wp2_with fail
       refine (in_of _ _ _ true HIN2.out).mono ?_
       rintro e w9 ⟨rfl, rfl⟩
       go_wp2_with fail
       go_meet
       case rel => exact ⟨false, rfl, ⟨fun _ => HX.out, fun _ => rfl⟩, Fr.refl _ _⟩
     have e3 : (op == 3) = false := by rw [beq_eq_false_iff_ne]; omega
     have e7 : (op == 7) = false := by rw [beq_eq_false_iff_ne]; omega
     have e8 : (op == 8) = false := by rw [beq_eq_false_iff_ne]; omega
     have e12 : (op == 12) = false := by rw [beq_eq_false_iff_ne]; omega
     have e13 : (op == 13) = false := by rw [beq_eq_false_iff_ne]; omega
     have HV0 : Hid (VarP nv ⟨op, node, mode, tab, row, col, var, dst, eq, fro, upto, key, vals⟩) := fun h => absurd h (by simp only; omega)
     by_cases h10 : 10 ≤ op
     rotate_left
     ·have HX : Hid (VarP nv ⟨op, node, mode, tab, row, col, var, dst, eq, fro, upto, key, vals⟩ ∧ DstP size ⟨op, node, mode, tab, row, col, var, dst, eq, fro, upto, key, vals⟩) := ⟨HV0.out, fun h => absurd h.1 h10⟩
      clear q3 q7 q8 q12 q13
      go_wp2_with fail
      go_meet
      case rel => exact ⟨false, rfl, ⟨fun _ => HX.out, fun _ => rfl⟩, Fr.refl _ _⟩
     by_cases h13 : op ≤ 13
     rotate_left
     ·have HX : Hid (VarP nv ⟨op, node, mode, tab, row, col, var, dst, eq, fro, upto, key, vals⟩ ∧ DstP size ⟨op, node, mode, tab, row, col, var, dst, eq, fro, upto, key, vals⟩) := ⟨HV0.out, fun h => absurd h.2 h13⟩
      clear q3 q7 q8 q12 q13
      go_wp2_with fail
      go_meet
      case rel => exact ⟨false, rfl, ⟨fun _ => HX.out, fun _ => rfl⟩, Fr.refl _ _⟩
     cases hin2 : inB dst size
     ·have HX : Hid (¬ (VarP nv ⟨op, node, mode, tab, row, col, var, dst, eq, fro, upto, key, vals⟩ ∧ DstP size ⟨op, node, mode, tab, row, col, var, dst, eq, fro, upto, key, vals⟩)) := fun h => by have h := h.2 ⟨h10, h13⟩; unfold inB at hin2; simp only at h; simp [h.1, h.2] at hin2
      have HIN2 := Lib.hid hin2
      clear hin2 q3 q7 q8 q12 q13
      go_wp2_with fail
      refine (in_of _ _ _ false HIN2.out).mono ?_
      rintro e w9 ⟨rfl, rfl⟩
      go_wp2_with fail
      go_meet
      case rel => exact ⟨true, rfl, ⟨fun h => Bool.noConfusion h, fun h => (HX.out h).elim⟩, Fr.refl _ _⟩
     ·have HX : Hid (VarP nv ⟨op, node, mode, tab, row, col, var, dst, eq, fro, upto, key, vals⟩ ∧ DstP size ⟨op, node, mode, tab, row, col, var, dst, eq, fro, upto, key, vals⟩) := ⟨HV0.out, fun _ => by unfold inB at hin2; simpa using hin2⟩
      have HIN2 := Lib.hid hin2
      clear hin2 q3 q7 q8 q12 q13
      go_wp2_with fail
      refine (in_of _ _ _ true HIN2.out).mono ?_
      rintro e w9 ⟨rfl, rfl⟩
      go_wp2_with fail
      go_meet
      case rel => exact ⟨false, rfl, ⟨fun _ => HX.out, fun _ => rfl⟩, Fr.refl _ _⟩
    case rest =>
     obtain ⟨b, rfl, hb, hf⟩ := hcut
     have HR6 := Lib.hid hb
     have HF6 := Lib.hid (HF4.out.trans0 hf)
     obtain ⟨w6, rfl⟩ : ∃ w6 : World, w6 = wc := ⟨_, rfl⟩
     clear hb hf
     cases b
     rotate_left
     ·go_wp2_with fail
      go_ret
      exact ⟨false, rfl, ⟨fun h => Bool.noConfusion h, fun h => Bool.noConfusion (HR6.out.2 ⟨h.var, h.dst⟩)⟩, HF1.out.trans0 HF6.out⟩
     have HT6 := Lib.hid (HR6.out.1 rfl)
     clear HR6
     go_upto_region 8 with (fail)
     go_cut [143] from 117 to 143 (fun v wx => ∃ b, v = .bool b ∧ (b = false ↔ ModeP ⟨op, node, mode, tab, row, col, var, dst, eq, fro, upto, key, vals⟩) ∧ Fr w6 wx Nil)
     case first =>
      have c0 := (HB1.out.fr HF6.out fun h => h).cell 0
      have c2 := (HB1.out.fr HF6.out fun h => h).cell 2
      have c4 := (HB1.out.fr HF6.out fun h => h).cell 4
      simp only [InstrD.cs, List.getElem?_cons_zero, List.getElem?_cons_succ] at c0 c2 c4
      by_cases q1 : op = 1
      rotate_left
      ·have HX : Hid (ModeP ⟨op, node, mode, tab, row, col, var, dst, eq, fro, upto, key, vals⟩) := fun h => absurd h q1
       have e1 : (op == 1) = false := by rw [beq_eq_false_iff_ne]; omega
       clear q1
       go_wp2_with fail
       go_meet
       case rel => exact ⟨false, rfl, ⟨fun _ => HX.out, fun _ => rfl⟩, Fr.refl _ _⟩
      subst q1
      by_cases q3 : mode = 3
      ·subst q3
       have HX : Hid (ModeP ⟨1, node, 3, tab, row, col, var, dst, eq, fro, upto, key, vals⟩) := fun _ => by simp
       go_wp2_with fail
       go_meet
       case rel => exact ⟨false, rfl, ⟨fun _ => HX.out, fun _ => rfl⟩, Fr.refl _ _⟩
      by_cases q5 : mode = 5
      ·subst q5
       have HX : Hid (ModeP ⟨1, node, 5, tab, row, col, var, dst, eq, fro, upto, key, vals⟩) := fun _ => by simp
       go_wp2_with fail
       go_meet
       case rel => exact ⟨false, rfl, ⟨fun _ => HX.out, fun _ => rfl⟩, Fr.refl _ _⟩
      have f3 : (mode != 3) = true := by rw [bne_iff_ne]; exact q3
      have f5 : (mode != 5) = true := by rw [bne_iff_ne]; exact q5
      cases row
      rotate_left
      ·have HX : Hid (¬ ModeP ⟨1, node, mode, tab, true, col, var, dst, eq, fro, upto, key, vals⟩) := fun h => by have h := h rfl; simp [q3, q5] at h
       clear q3 q5
       go_wp2_with fail
       go_meet
       case rel => exact ⟨true, rfl, ⟨fun h => Bool.noConfusion h, fun h => (HX.out h).elim⟩, Fr.refl _ _⟩
      by_cases q1 : mode = 1
      ·subst q1
       have HX : Hid (ModeP ⟨1, node, 1, tab, false, col, var, dst, eq, fro, upto, key, vals⟩) := fun _ => by simp
       clear q3 q5 f3 f5
       go_wp2_with fail
       go_meet
       case rel => exact ⟨false, rfl, ⟨fun _ => HX.out, fun _ => rfl⟩, Fr.refl _ _⟩
      by_cases q2 : mode = 2
      ·subst q2
       have HX : Hid (ModeP ⟨1, node, 2, tab, false, col, var, dst, eq, fro, upto, key, vals⟩) := fun _ => by simp
       clear q3 q5 f3 f5
       go_wp2_with fail
       go_meet
       case rel => exact ⟨false, rfl, ⟨fun _ => HX.out, fun _ => rfl⟩, Fr.refl _ _⟩
      have HX : Hid (¬ ModeP ⟨1, node, mode, tab, false, col, var, dst, eq, fro, upto, key, vals⟩) := fun h => by have h := h rfl; simp [q3, q5, q1, q2] at h
      have f1 : (mode != 1) = true := by rw [bne_iff_ne]; exact q1
      have f2 : (mode != 2) = true := by rw [bne_iff_ne]; exact q2
      clear q3 q5 q1 q2
      go_wp2_with fail
      go_meet
      case rel => exact ⟨true, rfl, ⟨fun h => Bool.noConfusion h, fun h => (HX.out h).elim⟩, Fr.refl _ _⟩
     case rest =>
      obtain ⟨b, rfl, hb, hf⟩ := hcut
      have HR8 := Lib.hid hb
      have HF8 := Lib.hid (HF6.out.trans0 hf)
      obtain ⟨w8, rfl⟩ : ∃ w8 : World, w8 = wc := ⟨_, rfl⟩
      clear hb hf
      cases b
      rotate_left
      ·go_wp2_with fail
       go_ret
       exact ⟨false, rfl, ⟨fun h => Bool.noConfusion h, fun h => Bool.noConfusion (HR8.out.2 h.mode)⟩, HF1.out.trans0 HF8.out⟩
      have HT8 := Lib.hid (HR8.out.1 rfl)
      clear HR8
      go_upto_region 10 with (fail)
      go_cut [164] from 144 to 164 (fun v wx => ∃ b, v = .bool b ∧ (b = false ↔ KeyP nv ⟨op, node, mode, tab, row, col, var, dst, eq, fro, upto, key, vals⟩) ∧ Fr w8 wx Nil)
      case first =>
       have c0 := (HB1.out.fr HF8.out fun h => h).cell 0
       have c1 := (HB1.out.fr HF8.out fun h => h).cell 1
       have c2 := (HB1.out.fr HF8.out fun h => h).cell 2
       have c3 := (HB1.out.fr HF8.out fun h => h).cell 3
       have c4 := (HB1.out.fr HF8.out fun h => h).cell 4
       have c5 := (HB1.out.fr HF8.out fun h => h).cell 5
       have c6 := (HB1.out.fr HF8.out fun h => h).cell 6
       have c7 := (HB1.out.fr HF8.out fun h => h).cell 7
       have c8 := (HB1.out.fr HF8.out fun h => h).cell 8
       have c9 := (HB1.out.fr HF8.out fun h => h).cell 9
       have c10 := (HB1.out.fr HF8.out fun h => h).cell 10
       have c11 := (HB1.out.fr HF8.out fun h => h).cell 11
       have c12 := (HB1.out.fr HF8.out fun h => h).cell 12
       simp only [InstrD.cs, List.getElem?_cons_zero, List.getElem?_cons_succ] at c0 c1 c2 c3 c4 c5 c6 c7 c8 c9 c10 c11 c12
       go_wp2_with fail
       refine (keyed_any ⟨op, node, mode, tab, row, col, var, dst, eq, fro, upto, key, vals⟩ (.slice ka key.length kc) (.slice va vals.length vc) _ hop1).mono ?_
       rintro e w9 ⟨he, hf9⟩
       have HF9 := Lib.hid (HF8.out.trans0 hf9)
       have HF89 := Lib.hid hf9
       clear c0 c1 c2 c3 c4 c5 c6 c7 c8 c9 c10 c11 c12
       have z0 := (HB1.out.fr HF9.out fun h => h).cell 0
       have z1 := (HB1.out.fr HF9.out fun h => h).cell 1
       have z2 := (HB1.out.fr HF9.out fun h => h).cell 2
       have z3 := (HB1.out.fr HF9.out fun h => h).cell 3
       have z4 := (HB1.out.fr HF9.out fun h => h).cell 4
       have z5 := (HB1.out.fr HF9.out fun h => h).cell 5
       have z6 := (HB1.out.fr HF9.out fun h => h).cell 6
       have z7 := (HB1.out.fr HF9.out fun h => h).cell 7
       have z8 := (HB1.out.fr HF9.out fun h => h).cell 8
       have z9 := (HB1.out.fr HF9.out fun h => h).cell 9
       have z10 := (HB1.out.fr HF9.out fun h => h).cell 10
       have z11 := (HB1.out.fr HF9.out fun h => h).cell 11
       have z12 := (HB1.out.fr HF9.out fun h => h).cell 12
       simp only [InstrD.cs, List.getElem?_cons_zero, List.getElem?_cons_succ] at z0 z1 z2 z3 z4 z5 z6 z7 z8 z9 z10 z11 z12
       cases hkb : keyedB ⟨op, node, mode, tab, row, col, var, dst, eq, fro, upto, key, vals⟩
       ·rw [hkb] at he
        subst he
        have HNK : Hid (¬ Keyed ⟨op, node, mode, tab, row, col, var, dst, eq, fro, upto, key, vals⟩) := fun h => by rw [(keyedB_iff _).2 h] at hkb; cases hkb
        have HKB := Lib.hid hkb
        clear hkb hf9
        by_cases q : 0 < key.length
        ·have HX : Hid (¬ KeyP nv ⟨op, node, mode, tab, row, col, var, dst, eq, fro, upto, key, vals⟩) := fun h => by have h := h.2 HNK.out; simp only at h; rw [h] at q; simp at q
         have q2 : (0 : Int) < (key.length : Int) := by omega
         go_wp2_with fail
         go_meet
         case rel => exact ⟨true, rfl, ⟨fun h => Bool.noConfusion h, fun h => (HX.out h).elim⟩, HF89.out⟩
        have HX : Hid (KeyP nv ⟨op, node, mode, tab, row, col, var, dst, eq, fro, upto, key, vals⟩) := ⟨fun h => (HNK.out h).elim, fun _ => List.eq_nil_of_length_eq_zero (by simp only; omega)⟩
        have q2 : ¬ (0 : Int) < (key.length : Int) := by omega
        go_wp2_with fail
        refine (keyed_any ⟨op, node, mode, tab, row, col, var, dst, eq, fro, upto, key, vals⟩ (.slice ka key.length kc) (.slice va vals.length vc) _ hop1).mono ?_
        rintro e w10 ⟨he, hf10⟩
        have HF10 := Lib.hid (HF89.out.trans0 hf10)
        rw [HKB.out] at he
        subst he
        clear hf10 z0 z1 z2 z3 z4 z5 z6 z7 z8 z9 z10 z11 z12
        go_wp2_with fail
        go_meet
        case rel => exact ⟨false, rfl, ⟨fun _ => HX.out, fun _ => rfl⟩, HF10.out⟩
       ·rw [hkb] at he
        subst he
        have HKY : Hid (Keyed ⟨op, node, mode, tab, row, col, var, dst, eq, fro, upto, key, vals⟩) := (keyedB_iff _).1 hkb
        have HKB := Lib.hid hkb
        clear hkb hf9
        go_wp2_with fail
        refine (keyed_any ⟨op, node, mode, tab, row, col, var, dst, eq, fro, upto, key, vals⟩ (.slice ka key.length kc) (.slice va vals.length vc) _ hop1).mono ?_
        rintro e w10 ⟨he, hf10⟩
        have HF10 := Lib.hid (HF89.out.trans0 hf10)
        have HF10b := Lib.hid (HF9.out.trans0 hf10)
        rw [HKB.out] at he
        subst he
        clear hf10 z0 z1 z2 z3 z4 z5 z6 z7 z8 z9 z10 z11 z12
        have y11 := (HB1.out.fr HF10b.out fun h => h).cell 11
        simp only [InstrD.cs, List.getElem?_cons_zero, List.getElem?_cons_succ] at y11
        go_wp2_with fail
        have HVA := Lib.hid (vals_one ((HK.out).fr0 HF10b.out) 77)
        refine (good_any _ [key] nv _ HVA.out ⟨by simp, fun t ht => by rw [List.mem_singleton.1 ht]; exact hfk⟩ hnv).mono ?_
        rintro e w11 ⟨he, hf11⟩
        have HF11 := Lib.hid ((HF10.out.alloc _).trans0 hf11)
        clear hf11 y11 HVA
        cases hg : goodP nv key
        ·have HX : Hid (¬ KeyP nv ⟨op, node, mode, tab, row, col, var, dst, eq, fro, upto, key, vals⟩) := fun h => by have h := h.1 HKY.out; simp only at h; rw [hg] at h; cases h
         rw [show [key].all (goodP nv) = false by simp [hg]] at he
         subst he
         clear hg
         go_wp2_with fail
         go_meet
         case rel => exact ⟨true, rfl, ⟨fun h => Bool.noConfusion h, fun h => (HX.out h).elim⟩, HF11.out⟩
        ·have HX : Hid (KeyP nv ⟨op, node, mode, tab, row, col, var, dst, eq, fro, upto, key, vals⟩) := ⟨fun _ => hg, fun h => (h HKY.out).elim⟩
         rw [show [key].all (goodP nv) = true by simp [hg]] at he
         subst he
         clear hg
         go_wp2_with fail
         go_meet
         case rel => exact ⟨false, rfl, ⟨fun _ => HX.out, fun _ => rfl⟩, HF11.out⟩
      case rest =>
       obtain ⟨b, rfl, hb, hf⟩ := hcut
       have HR10 := Lib.hid hb
       have HF10 := Lib.hid (HF8.out.trans0 hf)
       obtain ⟨w10, rfl⟩ : ∃ w10 : World, w10 = wc := ⟨_, rfl⟩
       clear hb hf
       cases b
       rotate_left
       ·go_wp2_with fail
        go_ret
        exact ⟨false, rfl, ⟨fun h => Bool.noConfusion h, fun h => Bool.noConfusion (HR10.out.2 h.key)⟩, HF1.out.trans0 HF10.out⟩
       have HT10 := Lib.hid (HR10.out.1 rfl)
       clear HR10
       have HALL : Hid (ValsP TB nv ⟨op, node, mode, tab, row, col, var, dst, eq, fro, upto, key, vals⟩ → OneP TB nv size ⟨op, node, mode, tab, row, col, var, dst, eq, fro, upto, key, vals⟩) := fun hv => ⟨HBO.out.1, (bareok_iff hop1 hop2).1 HBO.out.2, HT4.out.1, HT4.out.2, HT6.out.1, HT6.out.2, HT8.out, HT10.out, hv⟩
       go_upto_region 12 with (fail)
       have k0 := KeptF.cell (w0 := w10) (show w10.cell? ⟨w.heap.size, 0, none⟩ = some _ from (HB1.out.fr HF10.out fun h => h).cell 0)
       have k1 := KeptF.cell (w0 := w10) (show w10.cell? ⟨w.heap.size, 1, none⟩ = some _ from (HB1.out.fr HF10.out fun h => h).cell 1)
       have k2 := KeptF.cell (w0 := w10) (show w10.cell? ⟨w.heap.size, 2, none⟩ = some _ from (HB1.out.fr HF10.out fun h => h).cell 2)
       have k3 := KeptF.cell (w0 := w10) (show w10.cell? ⟨w.heap.size, 3, none⟩ = some _ from (HB1.out.fr HF10.out fun h => h).cell 3)
       have k4 := KeptF.cell (w0 := w10) (show w10.cell? ⟨w.heap.size, 4, none⟩ = some _ from (HB1.out.fr HF10.out fun h => h).cell 4)
       have k5 := KeptF.cell (w0 := w10) (show w10.cell? ⟨w.heap.size, 5, none⟩ = some _ from (HB1.out.fr HF10.out fun h => h).cell 5)
       have k6 := KeptF.cell (w0 := w10) (show w10.cell? ⟨w.heap.size, 6, none⟩ = some _ from (HB1.out.fr HF10.out fun h => h).cell 6)
       have k7 := KeptF.cell (w0 := w10) (show w10.cell? ⟨w.heap.size, 7, none⟩ = some _ from (HB1.out.fr HF10.out fun h => h).cell 7)
       have k8 := KeptF.cell (w0 := w10) (show w10.cell? ⟨w.heap.size, 8, none⟩ = some _ from (HB1.out.fr HF10.out fun h => h).cell 8)
       have k9 := KeptF.cell (w0 := w10) (show w10.cell? ⟨w.heap.size, 9, none⟩ = some _ from (HB1.out.fr HF10.out fun h => h).cell 9)
       have k10 := KeptF.cell (w0 := w10) (show w10.cell? ⟨w.heap.size, 10, none⟩ = some _ from (HB1.out.fr HF10.out fun h => h).cell 10)
       have k11 := KeptF.cell (w0 := w10) (show w10.cell? ⟨w.heap.size, 11, none⟩ = some _ from (HB1.out.fr HF10.out fun h => h).cell 11)
       have k12 := KeptF.cell (w0 := w10) (show w10.cell? ⟨w.heap.size, 12, none⟩ = some _ from (HB1.out.fr HF10.out fun h => h).cell 12)
       refine wp_region_sink 13 (KeptF w10) (by kernel_rfl) ?_
       have hSa : KeptF w10 w10.drew := KeptF.start _
       refine tk 0 hSa ?_
       try simp only [Act.put, sA, sB, sC]
       refine tk 1 hSa ?_ (hy := by intro _ w; have ck12 := k12 _ w; go_simp <;> with_reducible rfl)
       try simp only [Act.put, sA, sB, sC]
       refine tk 2 hSa ?_
       try simp only [Act.put, sA, sB, sC]
       refine tk 3 hSa ?_ (hy := by intro _ w; have ck0 := k0 _ w; have ck1 := k1 _ w; have ck2 := k2 _ w; have ck3 := k3 _ w; have ck4 := k4 _ w; have ck5 := k5 _ w; have ck6 := k6 _ w; have ck7 := k7 _ w; have ck8 := k8 _ w; have ck9 := k9 _ w; have ck10 := k10 _ w; have ck11 := k11 _ w; have ck12 := k12 _ w; go_simp <;> with_reducible rfl)
       try simp only [Act.put, sA, sB, sC]
       refine tk 4 hSa ?_
       try simp only [Act.put, sA, sB, sC]
       refine on1 5 fun K hK => ?_
       go_simp
       refine (values_any ⟨op, node, mode, tab, row, col, var, dst, eq, fro, upto, key, vals⟩ _ _ _ TB _ (HT.out.fr0 ((HF1.out.trans0 HF10.out).trans0 (KeptF.fr hSa))) HT4.out.1).mono ?_
       rintro e w11 ⟨rfl, hf11⟩
       have hSb := KeptF.next hSa hf11
       refine hK.out _ _ hSb ?_
       clear hK K
       try simp only [Act.put, sA, sB, sC]
       obtain ⟨wn, hwn⟩ : ∃ wn, wn = wantN TB ⟨op, node, mode, tab, row, col, var, dst, eq, fro, upto, key, vals⟩ := ⟨_, rfl⟩
       rw [← hwn]
       have HWN := Lib.hid hwn
       clear hwn
       by_cases hq : (vals.length : Int) = wn
       ·have f1 : ((vals.length : Int) == wn) = true := by rw [beq_iff_eq]; exact hq
        have HQ := Lib.hid hq
        clear hq
        refine tk 6 hSb ?_
        refine tk 7 hSb ?_
        refine tk 8 hSb ?_
        refine tk 9 hSb ?_
        try simp only [Act.put, sA, sB, sC]
        refine tk 10 hSb ?_ (hy := by intro _ w; have ck12 := k12 _ w; go_simp <;> with_reducible rfl)
        try simp only [Act.put, sA, sB, sC]
        refine on1 11 fun K hK => ?_
        go_simp
        refine (good_any _ vals nv _ (HV.out.fr0 (HF10.out.trans0 (KeptF.fr hSb))) HFV.out hnv).mono ?_
        rintro e w12 ⟨rfl, hf12⟩
        have hSc := KeptF.next hSb hf12
        refine hK.out _ _ hSc ?_
        clear hK K
        try simp only [Act.put, sA, sB, sC]
        obtain ⟨g, hg⟩ : ∃ g, g = vals.all (goodP nv) := ⟨_, rfl⟩
        rw [← hg]
        have HG := Lib.hid hg
        clear hg
        refine tk 12 hSc ?_
        try simp only [Act.put, sA, sB, sC]
        refine wpAnyS_last (i := 13) rfl (by kernel_rfl) (by decide) (by kernel_rfl) (by rfl) fun K hK => ?_
        go_simp
        refine hK.out _ _ ?_
        clear hK K
        have HF := Lib.hid (KeptF.fr hSc)
        clear k0 k1 k2 k3 k4 k5 k6 k7 k8 k9 k10 k11 k12 f1 hSa hSb hSc hf11 hf12
        go_wp2_with fail
        go_ret
        exact ⟨g, rfl, ⟨fun h => HALL.out ⟨HQ.out.trans HWN.out, by rw [← HG.out]; exact h⟩, fun h => by rw [HG.out]; exact h.vals.2⟩, HF1.out.trans0 (HF10.out.trans0 HF.out)⟩
       ·have f1 : ((vals.length : Int) == wn) = false := by rw [beq_eq_false_iff_ne]; exact hq
        have HQ := Lib.hid hq
        clear hq
        refine tk 6 hSb ?_
        refine tk 7 hSb ?_
        try simp only [Act.put, sA, sB, sC]
        refine wpAnyS_skip (i := 8) rfl (by kernel_rfl) (fun _ _ _ h => h) (by rfl) hSb ?_
        try simp only [Act.put, sA, sB, sC]
        refine wpAnyS_skip (i := 9) rfl (by kernel_rfl) (fun _ _ _ h => h) (by rfl) hSb ?_
        try simp only [Act.put, sA, sB, sC]
        refine wpAnyS_skip (i := 10) rfl (by kernel_rfl) (fun _ _ _ h => h) (by rfl) hSb ?_
        try simp only [Act.put, sA, sB, sC]
        refine wpAnyS_skip (i := 11) rfl (by kernel_rfl) (fun _ _ _ h => h) (by rfl) hSb ?_
        try simp only [Act.put, sA, sB, sC]
        refine tk 12 hSb ?_
        try simp only [Act.put, sA, sB, sC]
        refine wpAnyS_last (i := 13) rfl (by kernel_rfl) (by decide) (by kernel_rfl) (by rfl) fun K hK => ?_
        go_simp
        refine hK.out _ _ ?_
        clear hK K
        have HF := Lib.hid (KeptF.fr hSb)
        clear k0 k1 k2 k3 k4 k5 k6 k7 k8 k9 k10 k11 k12 f1 hSa hSb hf11
        go_wp2_with fail
        go_ret
        exact ⟨false, rfl, ⟨fun h => Bool.noConfusion h, fun h => absurd (h.vals.1.trans HWN.out.symm) HQ.out⟩, HF1.out.trans0 (HF10.out.trans0 HF.out)⟩
end Go.Proofs.YtgpekgnhbccnoaaGreat
namespace Go.Proofs.YtgpekgnhbccnoaaGreat
open Go Go.RowKit
attribute [local go_sem ↓] Go.wp_at_zero Go.wp_at_succ

def FewC (L : List InstrD) : Prop := L.length ≤ 100000 ∧ ∀ n ∈ L, n.key.length ≤ 100000 ∧ FewT n.vals
def RightRet (TB : List Int) (nv : Int) (L : List InstrD) (w : World) (e : Ending) (w' : World) : Prop := ∃ b, e = .returned (.bool b) ∧ (b = true ↔ RightP TB nv L) ∧ Fr w w' Nil
def OnesTo (TB : List Int) (nv : Nat) (L : List InstrD) (i : Nat) : Prop := ∀ (j : Nat) (n : InstrD), j < i → L[j]? = some n → OneP TB nv L.length n ∧ (n.op = 16 ↔ j + 1 = L.length)
def JumpsTo (L : List InstrD) (k : Nat) : Prop := ∀ (j i : Nat) (m n : InstrD), j < k → L[j]? = some m → L[i]? = some n → 10 ≤ m.op ∧ m.op ≤ 13 → n.op = 15 → ¬ (j < i ∧ (i : Int) < m.dst) ∧ ¬ (i < j ∧ m.dst ≤ (i : Int))
theorem OnesTo.next {TB : List Int} {nv : Nat} {L : List InstrD} {i : Nat} {n : InstrD} (h : OnesTo TB nv L i) (hn : L[i]? = some n) (h1 : OneP TB nv L.length n) (h2 : n.op = 16 ↔ i + 1 = L.length) : OnesTo TB nv L (i + 1) := fun j m hj hm => by
 by_cases e : j = i
 ·subst e
  rw [hn] at hm
  cases hm
  exact ⟨h1, h2⟩
 ·exact h j m (by omega) hm
theorem JumpsTo.next {L : List InstrD} {k : Nat} {m : InstrD} (h : JumpsTo L k) (hm : L[k]? = some m) (h1 : 10 ≤ m.op ∧ m.op ≤ 13 → ∀ (i : Nat) (n : InstrD), L[i]? = some n → n.op = 15 → ¬ (k < i ∧ (i : Int) < m.dst) ∧ ¬ (i < k ∧ m.dst ≤ (i : Int))) : JumpsTo L (k + 1) := fun j i m' n hj hm' hn hq hp => by
 by_cases e : j = k
 ·subst e
  rw [hm] at hm'
  cases hm'
  exact h1 hq i n hn hp
 ·exact h j i m' n (by omega) hm' hn hq hp
theorem mark_any (l : List InstrD) : l.any mark = l.any (fun n => decide (n.op = 15)) := rfl
set_option maxRecDepth 100000 in
set_option maxHeartbeats 400000 in
theorem right_none (lv tv : Value) (TB : List Int) (nv : Int) (L : List InstrD) (w : World) (h : CodeAt w lv L) (hq : L.length = 0 ∨ nv < 0) :
  Calls Tryz.prog 38 #[lv, tv, .int .i64 nv] w (RightRet TB nv L w) := by
 obtain ⟨a, c, rfl⟩ := h.shape
 have HX : Hid (¬ RightP TB nv L) := fun hr => by have := hr.ne; have := hr.pos; omega
 clear h
 by_cases h0 : L.length = 0
 ·obtain rfl := List.eq_nil_of_length_eq_zero h0
  clear h0 hq
  go_enter Tryz.func38, Tryz.ntmps38
  go_wp2_with fail
  go_ret
  exact ⟨false, rfl, ⟨fun h => Bool.noConfusion h, fun h => (HX.out h).elim⟩, Fr.refl _ _⟩
 ·have h1 : nv < 0 := by omega
  have e : ((L.length : Int) == 0) = false := by rw [beq_eq_false_iff_ne]; omega
  clear hq h0
  go_enter Tryz.func38, Tryz.ntmps38
  go_wp2_with fail
  go_ret
  exact ⟨false, rfl, ⟨fun h => Bool.noConfusion h, fun h => (HX.out h).elim⟩, Fr.refl _ _⟩
set_option maxRecDepth 100000 in
set_option maxHeartbeats 8000000 in
theorem right_main (b off c : Nat) (tv : Value) (TB : List Int) (nv : Nat) (L : List InstrD) (w : World) (h : CodeAt w (.slice (some ⟨b, off, none⟩) L.length c) L) (hcap : L.length ≤ c) (ht : IntsAt w tv TB) (hf : FewC L) (hnv : nv ≤ 1000000) (hTB : TB.length ≤ 1000000) (h0 : 0 < L.length) :
  Calls Tryz.prog 38 #[.slice (some ⟨b, off, none⟩) L.length c, tv, .int .i64 nv] w (RightRet TB nv L w) := by
 obtain ⟨ta, tc, rfl⟩ := ht.shape
 have HT := Lib.hid ht
 have HC := Lib.hid h
 have HFEW := Lib.hid hf
 have hLl := hf.1
 have e0 : ((L.length : Int) == 0) = false := by rw [beq_eq_false_iff_ne]; omega
 have hn0 : ¬ (nv : Int) < 0 := by omega
 clear h ht hf
 go_enter Tryz.func38, Tryz.ntmps38
 go_wp2_with fail
 go_loopw [22] (fun vi wr => ∃ i : Nat, i ≤ L.length ∧ vi = .int .i64 i ∧ OnesTo TB nv L i ∧ Fr w wr Nil) (fun vi _ => L.length - (intOf vi).toNat)
 case atStart => exact ⟨0, by omega, rfl, fun j n hj => by omega, Fr.refl _ _⟩
 case round =>
  obtain ⟨i, hi, rfl, hon, hf⟩ := hrel
  have HON := Lib.hid hon
  have HF := Lib.hid hf
  obtain ⟨wo, rfl⟩ : ∃ wo : World, wo = wr := ⟨_, rfl⟩
  clear hon hf
  by_cases hlt : i < L.length
  ·obtain ⟨b2, off2, cap, hvv, hvc⟩ := (HC.out.fr0 HF.out).form (by omega)
   simp only [Value.slice.injEq, Option.some.injEq, Addr.mk.injEq, and_true, true_and] at hvv
   obtain ⟨⟨rfl, rfl⟩, rfl⟩ := hvv
   have hg := List.getElem?_eq_getElem hlt
   generalize L[i] = n at hg
   obtain ⟨ka, kc, va, vc, hkt, hvt, p0, p1, p2, p3, p4, p5, p6, p7, p8, p9, p10, p11, p12⟩ := (hvc i n hg).cell
   have HG := Lib.hid hg
   have HNF := Lib.hid (HFEW.out.2 n (List.mem_of_getElem? hg))
   have HW : Hid (∀ o, Fr wo (wo.alloc o) Nil) := fun o => (Fr.refl wo Nil).alloc o
   have HKT := Lib.hid hkt
   have HVT := Lib.hid hvt
   have hii : (i : Int) < (L.length : Int) := by omega
   clear hvc hg hkt hvt
   obtain ⟨w1, hw1⟩ : ∃ w1, w1 = wo.alloc (.cells #[.int .u8 n.op, .int .i64 n.node, .int .u8 n.mode, .int .i64 n.tab, .bool n.row, .int .i64 n.col, .int .i64 n.var, .int .i64 n.dst, .bool n.eq, .int .i64 n.fro, .int .i64 n.upto, .slice ka n.key.length kc, .slice va n.vals.length vc] 81) := ⟨_, rfl⟩
   have HB1 : Hid (Bk w1 wo.heap.size 81 (n.cs (.slice ka n.key.length kc) (.slice va n.vals.length vc))) := by rw [hw1]; exact Lib.hid (Bk.new wo _ _)
   have HF1 : Hid (Fr wo w1 Nil) := by rw [hw1]; exact HW.out _
   have HW1 := Lib.hid hw1
   clear hw1
   go_wp2_with fail
   rw [← HW1.out]
   refine (one_any n (.slice ka n.key.length kc) (.slice va n.vals.length vc) _ TB nv L.length _ (HKT.out.fr0 HF1.out) (HVT.out.fr0 HF1.out) (HT.out.fr0 (HF.out.trans0 HF1.out)) HNF.out.1 HNF.out.2 hnv hTB).mono ?_
   rintro e w2 ⟨bo, rfl, hbo, hf2⟩
   have HBO := Lib.hid hbo
   have HF2 := Lib.hid hf2
   have HFA := Lib.hid (HF.out.trans0 (HF1.out.trans0 hf2))
   have z0 := (HB1.out.fr hf2 fun h => h).cell 0
   simp only [InstrD.cs, List.getElem?_cons_zero] at z0
   clear hbo hf2 p0 p1 p2 p3 p4 p5 p6 p7 p8 p9 p10 p11 p12
   cases bo
   ·have HX : Hid (¬ RightP TB nv L) := fun hr => by
     have := HBO.out.2 (hr.one i n HG.out).1
     cases this
    go_wp2_with fail
    go_ret
    exact ⟨false, rfl, ⟨fun h => Bool.noConfusion h, fun h => (HX.out h).elim⟩, HFA.out⟩
   ·have HOP := Lib.hid (HBO.out.1 rfl)
    clear HBO
    by_cases h16 : n.op = 16
    ·have f1 : (n.op == 16) = true := by rw [beq_iff_eq]; exact h16
     by_cases hla : i + 1 = L.length
     ·have f2 : ((i : Int) == (L.length : Int) - 1) = true := by rw [beq_iff_eq]; omega
      have HN := Lib.hid (HON.out.next HG.out HOP.out (by omega))
      clear h16 hla
      go_wp2_with fail
      go_roundw
      case rel => exact ⟨i + 1, by omega, by go_num, HN.out, HFA.out⟩
      case measure => simp [intOf]; omega
     ·have f2 : ((i : Int) == (L.length : Int) - 1) = false := by rw [beq_eq_false_iff_ne]; omega
      have HX : Hid (¬ RightP TB nv L) := fun hr => hla ((hr.one i n HG.out).2.1 h16)
      clear h16 hla
      go_wp2_with fail
      go_ret
      exact ⟨false, rfl, ⟨fun h => Bool.noConfusion h, fun h => (HX.out h).elim⟩, HFA.out⟩
    ·have f1 : (n.op == 16) = false := by rw [beq_eq_false_iff_ne]; exact h16
     by_cases hla : i + 1 = L.length
     ·have f2 : ((i : Int) == (L.length : Int) - 1) = true := by rw [beq_iff_eq]; omega
      have HX : Hid (¬ RightP TB nv L) := fun hr => h16 ((hr.one i n HG.out).2.2 hla)
      clear h16 hla
      go_wp2_with fail
      go_ret
      exact ⟨false, rfl, ⟨fun h => Bool.noConfusion h, fun h => (HX.out h).elim⟩, HFA.out⟩
     ·have f2 : ((i : Int) == (L.length : Int) - 1) = false := by rw [beq_eq_false_iff_ne]; omega
      have HN := Lib.hid (HON.out.next HG.out HOP.out ⟨fun h => absurd h h16, fun h => absurd h hla⟩)
      clear h16 hla
      go_wp2_with fail
      go_roundw
      case rel => exact ⟨i + 1, by omega, by go_num, HN.out, HFA.out⟩
      case measure => simp [intOf]; omega
  ·obtain rfl : i = L.length := by omega
   have hii : ¬ (L.length : Int) < (L.length : Int) := by omega
   clear hlt hi
   go_wp2_with fail
   have HONE := Lib.hid HON.out
   go_loopw [48] (fun vi wr => ∃ k : Nat, k ≤ L.length ∧ vi = .int .i64 k ∧ JumpsTo L k ∧ Fr w wr Nil) (fun vi _ => L.length - (intOf vi).toNat)
   case atStart => exact ⟨0, by omega, rfl, fun j i m n hj => by omega, HF.out⟩
   case round =>
    clear HF
    obtain ⟨k, hk, rfl, hju, hf⟩ := hrel
    have HJ := Lib.hid hju
    have HF := Lib.hid hf
    obtain ⟨wo, rfl⟩ : ∃ wo : World, wo = wr := ⟨_, rfl⟩
    clear hju hf
    by_cases hlt : k < L.length
    ·obtain ⟨b2, off2, cap, hvv, hvc⟩ := (HC.out.fr0 HF.out).form (by omega)
     simp only [Value.slice.injEq, Option.some.injEq, Addr.mk.injEq, and_true, true_and] at hvv
     obtain ⟨⟨rfl, rfl⟩, rfl⟩ := hvv
     have hg := List.getElem?_eq_getElem hlt
     generalize L[k] = n at hg
     obtain ⟨ka, kc, va, vc, hkt, hvt, p0, p1, p2, p3, p4, p5, p6, p7, p8, p9, p10, p11, p12⟩ := (hvc k n hg).cell
     have HG := Lib.hid hg
     have HFW : Hid (∀ o, Fr w (wo.alloc o) Nil) := fun o => HF.out.alloc o
     have hkk : (k : Int) < (L.length : Int) := by omega
     clear hvc hg hkt hvt
     by_cases h10 : n.op < 10
     ·have HN := Lib.hid (HJ.out.next HG.out (fun h => by omega))
      go_wp2_with fail
      go_roundw
      case rel => exact ⟨k + 1, by omega, by go_num, HN.out, HFW.out _⟩
      case measure => simp [intOf]; omega
     by_cases h13 : 13 < n.op
     ·have HN := Lib.hid (HJ.out.next HG.out (fun h => by omega))
      go_wp2_with fail
      go_roundw
      case rel => exact ⟨k + 1, by omega, by go_num, HN.out, HFW.out _⟩
      case measure => simp [intOf]; omega
     have HQ : Hid (10 ≤ n.op ∧ n.op ≤ 13) := ⟨by omega, by omega⟩
     have hdst := (HONE.out k n hlt HG.out).1.dst HQ.out
     obtain ⟨d, hd⟩ : ∃ d : Nat, n.dst = (d : Int) := ⟨n.dst.toNat, by omega⟩
     rw [hd] at p7
     have HD := Lib.hid hd
     have hdl : d < L.length := by omega
     clear hdst hd
     obtain ⟨w1, hw1⟩ : ∃ w1, w1 = wo.alloc (.cells #[.int .u8 n.op, .int .i64 n.node, .int .u8 n.mode, .int .i64 n.tab, .bool n.row, .int .i64 n.col, .int .i64 n.var, .int .i64 d, .bool n.eq, .int .i64 n.fro, .int .i64 n.upto, .slice ka n.key.length kc, .slice va n.vals.length vc] 81) := ⟨_, rfl⟩
     have HF1 : Hid (Fr w w1 Nil) := by rw [hw1]; exact HFW.out _
     have b7 : w1.cell? ⟨wo.heap.size, 7, none⟩ = some (.int .i64 d) := by rw [hw1]; exact (Bk.new wo _ _).cell 7
     have HW1 := Lib.hid hw1
     have k7 := KeptF.cell b7
     clear hw1
     by_cases hdk : k < d
     ·have hdk2 : (k : Int) < (d : Int) := by omega
      have hdk3 : (k : Int) ≤ (d : Int) := by omega
      have hdk4 : ¬ (d : Int) ≤ (k : Int) := by omega
      go_wp2_with fail
      rw [← HW1.out]
      refine wp_region_sink 9 (KeptF w1) (by kernel_rfl) ?_
      have hSa : KeptF w1 w1.drew := KeptF.start _
      refine tk 0 hSa ?_
      refine tk 1 hSa ?_
      try simp only [Act.put, sA, sB, sC]
      refine tk 2 hSa ?_ (hy := by intro _ w; have ck7 := k7 _ w; go_simp <;> with_reducible rfl)
      try simp only [Act.put, sA, sB, sC]
      refine tk 3 hSa ?_
      refine tk 4 hSa ?_
      refine tk 5 hSa ?_
      try simp only [Act.put, sA, sB, sC]
      refine tk 6 hSa ?_ (hy := by intro _ w; have ck7 := k7 _ w; go_simp <;> with_reducible rfl)
      try simp only [Act.put, sA, sB, sC]
      refine tk 7 hSa ?_
      refine tk 8 hSa ?_
      try simp only [Act.put, sA, sB, sC]
      refine wpAnyS_last (i := 9) rfl (by kernel_rfl) (by decide) (by kernel_rfl) (by rfl) fun K hK => ?_
      go_simp
      refine hK.out _ _ ?_
      clear hK K hSa k7
      go_wp2_with fail
      have e1 : (min (k : Int) (d : Int)).toNat = k := by omega
      have e2 : (max (k : Int) (d : Int)).toNat = d := by omega
      rw [e1, e2]
      clear e1 e2
      refine (containsC_any _ ((L.drop k).take (d - k)) _ (code_seg (HC.out.fr0 (HF1.out.trans0 (Fr.refl w1 Nil).drew)) k (d - k) _ (by omega)) (by rw [List.length_take]; omega)).mono ?_
      rintro e w5 ⟨he, hf5⟩
      have HF5 := Lib.hid ((HF1.out.trans0 (Fr.refl w1 Nil).drew).trans0 hf5)
      have HSEG := Lib.hid (jump_seg HG.out HQ.out (by rw [HD.out]; omega) (lo := k) (hi := d) (by rw [HD.out]; omega) (by rw [HD.out]; rw [if_pos (by omega)]; omega))
      clear hf5
      cases hm : ((L.drop k).take (d - k)).any mark
      ·have HN := Lib.hid (HJ.out.next HG.out fun _ => HSEG.out.1 (by rw [show d - k = d - k by omega]; exact hm))
       rw [hm] at he
       subst he
       clear hm
       go_wp2_with fail
       go_roundw
       case rel => exact ⟨k + 1, by omega, by go_num, HN.out, HF5.out⟩
       case measure => simp [intOf]; omega
      ·have HX : Hid (¬ RightP TB nv L) := fun hr => by
        have := HSEG.out.2 fun i m h1 h2 => hr.jump k i n m HG.out h1 HQ.out h2
        rw [show d - k = d - k by omega, ← mark_any, hm] at this
        cases this
       rw [hm] at he
       subst he
       clear hm
       go_wp2_with fail
       go_ret
       exact ⟨false, rfl, ⟨fun h => Bool.noConfusion h, fun h => (HX.out h).elim⟩, HF5.out⟩
     ·have hdk2 : ¬ (k : Int) < (d : Int) := by omega
      go_wp2_with fail
      rw [← HW1.out]
      refine wp_region_sink 9 (KeptF w1) (by kernel_rfl) ?_
      have hSa : KeptF w1 w1.drew := KeptF.start _
      refine tk 0 hSa ?_
      refine tk 1 hSa ?_
      try simp only [Act.put, sA, sB, sC]
      refine tk 2 hSa ?_ (hy := by intro _ w; have ck7 := k7 _ w; go_simp <;> with_reducible rfl)
      try simp only [Act.put, sA, sB, sC]
      refine tk 3 hSa ?_
      refine tk 4 hSa ?_
      refine tk 5 hSa ?_
      try simp only [Act.put, sA, sB, sC]
      refine tk 6 hSa ?_ (hy := by intro _ w; have ck7 := k7 _ w; go_simp <;> with_reducible rfl)
      try simp only [Act.put, sA, sB, sC]
      refine tk 7 hSa ?_
      refine tk 8 hSa ?_
      try simp only [Act.put, sA, sB, sC]
      refine wpAnyS_last (i := 9) rfl (by kernel_rfl) (by decide) (by kernel_rfl) (by rfl) fun K hK => ?_
      go_simp
      refine hK.out _ _ ?_
      clear hK K hSa k7
      go_wp2_with fail
      have e1 : (min (k : Int) (d : Int)).toNat = d := by omega
      have e2 : (max (k : Int) (d : Int) + 1).toNat = k + 1 := by omega
      rw [e1, e2]
      clear e1 e2
      refine (containsC_any _ ((L.drop d).take (k + 1 - d)) _ (code_seg (HC.out.fr0 (HF1.out.trans0 (Fr.refl w1 Nil).drew)) d (k + 1 - d) _ (by omega)) (by rw [List.length_take]; omega)).mono ?_
      rintro e w5 ⟨he, hf5⟩
      have HF5 := Lib.hid ((HF1.out.trans0 (Fr.refl w1 Nil).drew).trans0 hf5)
      have HSEG := Lib.hid (jump_seg HG.out HQ.out (by rw [HD.out]; omega) (lo := d) (hi := (k + 1)) (by rw [HD.out]; omega) (by rw [HD.out]; rw [if_neg (by omega)]; omega))
      clear hf5
      cases hm : ((L.drop d).take (k + 1 - d)).any mark
      ·have HN := Lib.hid (HJ.out.next HG.out fun _ => HSEG.out.1 (by rw [show (k + 1) - d = k + 1 - d by omega]; exact hm))
       rw [hm] at he
       subst he
       clear hm
       go_wp2_with fail
       go_roundw
       case rel => exact ⟨k + 1, by omega, by go_num, HN.out, HF5.out⟩
       case measure => simp [intOf]; omega
      ·have HX : Hid (¬ RightP TB nv L) := fun hr => by
        have := HSEG.out.2 fun i m h1 h2 => hr.jump k i n m HG.out h1 HQ.out h2
        rw [show (k + 1) - d = k + 1 - d by omega, ← mark_any, hm] at this
        cases this
       rw [hm] at he
       subst he
       clear hm
       go_wp2_with fail
       go_ret
       exact ⟨false, rfl, ⟨fun h => Bool.noConfusion h, fun h => (HX.out h).elim⟩, HF5.out⟩
    ·obtain rfl : k = L.length := by omega
     have hkk : ¬ (L.length : Int) < (L.length : Int) := by omega
     have HX : Hid (RightP TB nv L) := ⟨h0, by omega, fun i n hn => by
      have := HONE.out i n (List.getElem?_eq_some_iff.1 hn).1 hn
      simpa using this, fun j i m n hm hn => HJ.out j i m n (List.getElem?_eq_some_iff.1 hm).1 hm hn⟩
     clear hlt hk
     go_wp2_with fail
     go_ret
     exact ⟨true, rfl, ⟨fun _ => HX.out, fun _ => rfl⟩, HF.out⟩
theorem right_any (lv tv : Value) (TB : List Int) (nv : Int) (L : List InstrD) (w : World) (h : CodeAt w lv L) (hcap : CapOk lv) (ht : IntsAt w tv TB) (hf : FewC L) (hnv : nv ≤ 1000000) (hTB : TB.length ≤ 1000000) :
  Calls Tryz.prog 38 #[lv, tv, .int .i64 nv] w (RightRet TB nv L w) := by
 by_cases hq : L.length = 0 ∨ nv < 0
 ·exact right_none lv tv TB nv L w h hq
 ·obtain ⟨b, off, c, rfl, _⟩ := h.form (by omega)
  obtain ⟨m, rfl⟩ : ∃ m : Nat, nv = (m : Int) := ⟨nv.toNat, by omega⟩
  exact right_main b off c tv TB m L w h (hcap _ _ _ rfl) ht hf (by omega) hTB (by omega)
end Go.Proofs.YtgpekgnhbccnoaaGreat
namespace Go.Proofs.YtgpekgnhbccnoaaGreat
open Go Go.RowKit
attribute [local go_sem ↓] Go.wp_at_zero Go.wp_at_succ

section
variable {P : Program} {md : Region.Mode} {ops : Array Oper} {Q : Exit → Act → World → Prop} {S : World → Prop} {n : Nat}
end
/-- The cells of a list of cells that are instruction j's. -/
def InstrRow (cs : List Value) (j : Nat) (n : InstrD) (kv vv : Value) : Prop := ∀ t u, (n.cs kv vv)[t]? = some u → cs[j * 13 + t]? = some u
theorem cs_lt {n : InstrD} {kv vv u : Value} {t : Nat} (h : (n.cs kv vv)[t]? = some u) : t < 13 := by
 have := (List.getElem?_eq_some_iff.1 h).1
 simpa using this
/-- Other instructions' cells stay. -/
theorem InstrRow.other {cs : List Value} {j i : Nat} {n : InstrD} {kv vv : Value} (h : InstrRow cs j n kv vv) (hij : j ≠ i) (t : Nat) (ht : t < 13) (u : Value) : InstrRow (cs.set (i * 13 + t) u) j n kv vv := fun s x hx => by
 have hs := cs_lt hx
 rw [List.getElem?_set_ne (by omega)]
 exact h s x hx
theorem InstrRow.setK {cs : List Value} {i : Nat} {n : InstrD} {kv vv : Value} (h : InstrRow cs i n kv vv) (kv' : Value) : InstrRow (cs.set (i * 13 + 11) kv') i n kv' vv := fun s x hx => by
 have hs := cs_lt hx
 have h11 := h 11 kv rfl
 by_cases e : s = 11
 ·subst e
  rw [List.getElem?_set_self (List.getElem?_eq_some_iff.1 h11).1]
  exact hx
 ·rw [List.getElem?_set_ne (by omega)]
  refine h s x ?_
  rw [← hx]
  match s, hs, e with
  | 0, _, _ => rfl | 1, _, _ => rfl | 2, _, _ => rfl | 3, _, _ => rfl | 4, _, _ => rfl | 5, _, _ => rfl | 6, _, _ => rfl | 7, _, _ => rfl | 8, _, _ => rfl | 9, _, _ => rfl | 10, _, _ => rfl | 12, _, _ => rfl
theorem InstrRow.setV {cs : List Value} {i : Nat} {n : InstrD} {kv vv : Value} (h : InstrRow cs i n kv vv) (vv' : Value) : InstrRow (cs.set (i * 13 + 12) vv') i n kv vv' := fun s x hx => by
 have hs := cs_lt hx
 have h12 := h 12 vv rfl
 by_cases e : s = 12
 ·subst e
  rw [List.getElem?_set_self (List.getElem?_eq_some_iff.1 h12).1]
  exact hx
 ·rw [List.getElem?_set_ne (by omega)]
  refine h s x ?_
  rw [← hx]
  match s, hs, e with
  | 0, _, _ => rfl | 1, _, _ => rfl | 2, _, _ => rfl | 3, _, _ => rfl | 4, _, _ => rfl | 5, _, _ => rfl | 6, _, _ => rfl | 7, _, _ => rfl | 8, _, _ => rfl | 9, _, _ => rfl | 10, _, _ => rfl | 11, _, _ => rfl | 12, _, e => exact absurd rfl e | s + 13, hs, _ => omega
/-- Instruction j of the clone: it is done (of blocks of its own), or as it came. -/
def EntAt (w wr : World) (X : Nat → Prop) (cs : List Value) (j : Nat) (n : InstrD) (done : Bool) : Prop :=
 ∃ ka kc va vc, InstrRow cs j n (.slice ka n.key.length kc) (.slice va n.vals.length vc) ∧
  (done = true → NewS w.heap.size X wr (fun w => TermsAt w (.slice ka n.key.length kc) n.key ∧ ValsAt w (.slice va n.vals.length vc) n.vals)) ∧
  (done = false → TermsAt w (.slice ka n.key.length kc) n.key ∧ ValsAt w (.slice va n.vals.length vc) n.vals)
structure ClI (w wr : World) (X : Nat → Prop) (cb c i : Nat) (L : List InstrD) (cs : List Value) : Prop where
 own : wr.ownsRow w.heap.size 81 13 (.slice (some ⟨cb, 0, none⟩) L.length c) L.length cs
 ent : ∀ (j : Nat) (n : InstrD), L[j]? = some n → EntAt w wr X cs j n (decide (j < i))
 fr : Fr w wr Nil
theorem EntAt.fr {w wr wr' : World} {X T : Nat → Prop} {cs : List Value} {j : Nat} {n : InstrD} {d : Bool} (h : EntAt w wr X cs j n d) (hf : Fr wr wr' T) (hd : ∀ k, w.heap.size ≤ k → k < wr.heap.size → ¬ X k → ¬ T k) : EntAt w wr' X cs j n d := by
 obtain ⟨ka, kc, va, vc, h1, h2, h3⟩ := h
 exact ⟨ka, kc, va, vc, h1, fun e => (h2 e).fr hf hd, h3⟩
/-- The values of a slice, as a list of cells. -/
theorem ValsAt.cells {w : World} {v : Value} {l : List (List TermD)} (h : ValsAt w v l) : ∃ tvs : List Value, CSl w 1 v l.length tvs ∧ (∀ u ∈ tvs, u.oneCell' = true) ∧ ∀ (t : Nat) (x : List TermD), l[t]? = some x → ∃ xa xc, tvs[t]? = some (.slice xa x.length xc) ∧ TermsAt w (.slice xa x.length xc) x := by
 obtain ⟨a, cap, rfl, rfl | ⟨b, off, rfl, hc⟩⟩ := h
 ·refine ⟨[], ⟨by simp, a, cap, rfl, fun _ => rfl, fun ad _ j u hu => by simp at hu⟩, by simp, fun t x hx => by simp at hx⟩
 ·have key : ∀ t : Nat, ∃ p : Option Addr × Nat, ∀ x, l[t]? = some x → w.cell? ⟨b, off + t, none⟩ = some (.slice p.1 x.length p.2) ∧ TermsAt w (.slice p.1 x.length p.2) x := fun t => by
   cases e : l[t]? with
   | none => exact ⟨(none, 0), fun x hx => by cases hx⟩
   | some x =>
    obtain ⟨tv, h1, h2⟩ := hc t x e
    obtain ⟨xa, xc, rfl⟩ := h2.shape
    exact ⟨(xa, xc), fun y hy => by cases hy; exact ⟨h1, h2⟩⟩
  obtain ⟨f, hf⟩ : ∃ f : Nat → Option Addr × Nat, ∀ t x, l[t]? = some x → w.cell? ⟨b, off + t, none⟩ = some (.slice (f t).1 x.length (f t).2) ∧ TermsAt w (.slice (f t).1 x.length (f t).2) x := ⟨fun t => (key t).choose, fun t => (key t).choose_spec⟩
  have hm : ∀ (t : Nat) (x : List TermD), l[t]? = some x → ((List.range l.length).map fun t => Value.slice (f t).1 (l.getD t []).length (f t).2)[t]? = some (.slice (f t).1 x.length (f t).2) := fun t x hx => by
   have ht := (List.getElem?_eq_some_iff.1 hx).1
   rw [List.getElem?_map, List.getElem?_range ht]
   simp [hx]
  refine ⟨(List.range l.length).map fun t => .slice (f t).1 (l.getD t []).length (f t).2, ⟨by simp, _, cap, rfl, (fun h => by cases h), fun ad hd j u hu => ?_⟩, fun u hu => ?_, fun t x hx => ⟨_, _, hm t x hx, (hf t x hx).2⟩⟩
  ·cases hd
   have hj := (List.getElem?_eq_some_iff.1 hu).1
   simp only [List.length_map, List.length_range] at hj
   rw [hm j _ (List.getElem?_eq_getElem hj)] at hu
   cases hu
   rw [Addr.add_lit]
   exact (hf j _ (List.getElem?_eq_getElem hj)).1
  ·rw [List.mem_map] at hu
   obtain ⟨t, _, rfl⟩ := hu
   rfl
/-- The values, some of them of blocks of their own. -/
structure VaI (w wr : World) (X : Nat → Prop) (va : Option Addr) (vc k : Nat) (l : List (List TermD)) (tvs : List Value) : Prop where
 own : wr.ownsRow w.heap.size 77 1 (.slice va l.length vc) l.length tvs
 ent : ∀ (t : Nat) (x : List TermD), l[t]? = some x → ∃ xa xc, tvs[t]? = some (.slice xa x.length xc) ∧ (t < k → NewS w.heap.size X wr (fun w => TermsAt w (.slice xa x.length xc) x)) ∧ (k ≤ t → TermsAt w (.slice xa x.length xc) x)
theorem VaI.vals {w wr : World} {X X' : Nat → Prop} {va : Option Addr} {vc : Nat} {l : List (List TermD)} {tvs : List Value} (h : VaI w wr X va vc l.length l tvs) (hX : ∀ k, X' k → X k) (hv : ∀ k, (Value.slice va l.length vc).ownBlock = some k → ¬ X' k) : NewS w.heap.size X' wr (fun w => ValsAt w (.slice va l.length vc) l) := by
 have h1 := NewS.own h.own hv
 have h2 : NewS w.heap.size X' wr (fun w => ∀ p : Nat × List TermD, l[p.1]? = some p.2 → ∃ xa xc, tvs[p.1]? = some (.slice xa p.2.length xc) ∧ TermsAt w (.slice xa p.2.length xc) p.2) := by
  refine NewS.all fun p hp => ?_
  obtain ⟨xa, xc, h3, h4, _⟩ := h.ent p.1 p.2 hp
  exact ((h4 (List.getElem?_eq_some_iff.1 hp).1).weak hX).imp fun w hw => ⟨xa, xc, h3, hw⟩
 refine (h1.and h2).imp fun w' hw => ?_
 obtain ⟨ho, hc⟩ := hw
 cases l with
 | nil => exact ⟨va, vc, rfl, .inl rfl⟩
 | cons y l =>
  obtain ⟨g, cap, hg, _⟩ : ∃ g cap, Value.slice va (y :: l).length vc = .slice (some ⟨g, 0, none⟩) (y :: l).length cap ∧ True := by
   rcases ho.2 with ⟨_, h0⟩ | ⟨g, cap, cur, hv, _⟩
   ·simp at h0
   ·exact ⟨g, cap, hv, trivial⟩
  simp only [Value.slice.injEq, true_and] at hg
  obtain ⟨rfl, rfl⟩ := hg
  refine ⟨_, vc, rfl, .inr ⟨g, 0, rfl, fun t x hx => ?_⟩⟩
  obtain ⟨xa, xc, h3, h4⟩ := hc (t, x) hx
  refine ⟨_, ?_, h4⟩
  rw [Nat.zero_add, World.ownsRow.cellAt ho t (by have := (List.getElem?_eq_some_iff.1 hx).1; omega)]
  exact h3
theorem ClI.code {w wr : World} {cb c : Nat} {L : List InstrD} {cs : List Value} (h : ClI w wr (fun k => k = cb) cb c L.length L cs) : NewS w.heap.size (fun _ => False) wr (fun w => CodeAt w (.slice (some ⟨cb, 0, none⟩) L.length c) L) := by
 have h1 : NewS w.heap.size (fun _ => False) wr _ := NewS.own h.own fun k _ h => h
 have h2 : NewS w.heap.size (fun _ => False) wr (fun w => ∀ p : Nat × InstrD, L[p.1]? = some p.2 → ∃ ka kc va vc, InstrRow cs p.1 p.2 (.slice ka p.2.key.length kc) (.slice va p.2.vals.length vc) ∧ TermsAt w (.slice ka p.2.key.length kc) p.2.key ∧ ValsAt w (.slice va p.2.vals.length vc) p.2.vals) := by
  refine NewS.all fun p hp => ?_
  obtain ⟨ka, kc, va, vc, h3, h4, _⟩ := h.ent p.1 p.2 hp
  exact ((h4 (decide_eq_true (List.getElem?_eq_some_iff.1 hp).1)).weak fun k h => h.elim).imp fun w hw => ⟨ka, kc, va, vc, h3, hw⟩
 refine (h1.and h2).imp fun w' hw => ?_
 obtain ⟨ho, hc⟩ := hw
 refine ⟨_, c, rfl, .inr ⟨cb, 0, rfl, fun i n hn => ?_⟩⟩
 obtain ⟨ka, kc, va, vc, h3, h4, h5⟩ := hc (i, n) hn
 refine ⟨_, _, fun j u hu => ?_, h4, h5⟩
 have hj := cs_lt hu
 have hi := (List.getElem?_eq_some_iff.1 hn).1
 rw [Nat.zero_add, World.ownsRow.cellAt ho _ (by omega)]
 exact h3 j u hu
theorem cs_one {n : InstrD} {kv vv u : Value} (hk : kv.oneCell' = true) (hv : vv.oneCell' = true) (h : u ∈ n.cs kv vv) : u.oneCell' = true := by
 simp only [InstrD.cs, List.mem_cons, List.not_mem_nil, or_false] at h
 rcases h with rfl | rfl | rfl | rfl | rfl | rfl | rfl | rfl | rfl | rfl | rfl | rfl | rfl <;> first | rfl | exact hk | exact hv
theorem CodeAt.cells {w : World} {v : Value} {L : List InstrD} (X : Nat → Prop) (h : CodeAt w v L) : ∃ cs : List Value, CSl w 13 v L.length cs ∧ (∀ u ∈ cs, u.oneCell' = true) ∧ ∀ (j : Nat) (n : InstrD), L[j]? = some n → EntAt w w X cs j n false := by
 obtain ⟨a, cap, rfl, rfl | ⟨b, off, rfl, hc⟩⟩ := h
 ·exact ⟨[], ⟨by simp, a, cap, rfl, (fun _ => rfl), (fun ad _ j u hu => by simp at hu)⟩, by simp, fun j n hn => by simp at hn⟩
 ·have hget : ∀ (j : Nat) (u : Value), j < L.length * 13 → w.cell? ⟨b, off + j, none⟩ = some u → ((List.range (L.length * 13)).map fun j => (w.cell? ⟨b, off + j, none⟩).getD undef)[j]? = some u := fun j u hj hu => by
   rw [List.getElem?_map, List.getElem?_range hj]
   simp [hu]
  have hins : ∀ j, j < L.length * 13 → ∃ u, w.cell? ⟨b, off + j, none⟩ = some u ∧ u.oneCell' = true := fun j hj => by
   have hi : j / 13 < L.length := (Nat.div_lt_iff_lt_mul (by decide)).2 hj
   obtain ⟨kv, vv, h1, h2, h3⟩ := hc (j / 13) _ (List.getElem?_eq_getElem hi)
   obtain ⟨ka, kc, rfl⟩ := h2.shape
   obtain ⟨va, vc, rfl⟩ := h3.shape
   have hm : j % 13 < ((L[j / 13]).cs (.slice ka (L[j / 13]).key.length kc) (.slice va (L[j / 13]).vals.length vc)).length := by simp; omega
   refine ⟨_, ?_, cs_one rfl rfl (List.getElem_mem hm)⟩
   have := h1 (j % 13) _ (List.getElem?_eq_getElem hm)
   rwa [show off + j / 13 * 13 + j % 13 = off + j by omega] at this
  refine ⟨(List.range (L.length * 13)).map fun j => (w.cell? ⟨b, off + j, none⟩).getD undef, ⟨by simp, _, cap, rfl, (fun h => by cases h), fun ad hd j u hu => ?_⟩, fun u hu => ?_, fun j n hn => ?_⟩
  ·cases hd
   have hj := (List.getElem?_eq_some_iff.1 hu).1
   simp only [List.length_map, List.length_range] at hj
   obtain ⟨x, hx, _⟩ := hins j hj
   rw [hget j x hj hx] at hu
   cases hu
   rw [Addr.add_lit]
   exact hx
  ·rw [List.mem_map] at hu
   obtain ⟨j, hj, rfl⟩ := hu
   obtain ⟨x, hx, h1⟩ := hins j (List.mem_range.1 hj)
   rw [hx]
   exact h1
  ·have hj := (List.getElem?_eq_some_iff.1 hn).1
   obtain ⟨kv, vv, h1, h2, h3⟩ := hc j n hn
   obtain ⟨ka, kc, rfl⟩ := h2.shape
   obtain ⟨va, vc, rfl⟩ := h3.shape
   refine ⟨ka, kc, va, vc, fun t u hu => ?_, (fun h => by cases h), fun _ => ⟨h2, h3⟩⟩
   have ht := cs_lt hu
   refine hget _ u (by omega) ?_
   rw [← Nat.add_assoc]
   exact h1 t u hu
/-- Within instruction i: its values up to k are of their own. -/
structure Mid (w wr : World) (cb c i : Nat) (n : InstrD) (L : List InstrD) (cs : List Value) (ka va : Option Addr) (kc vc k : Nat) (tvs : List Value) : Prop where
 own : wr.ownsRow w.heap.size 81 13 (.slice (some ⟨cb, 0, none⟩) L.length c) L.length cs
 ent : ∀ (j : Nat) (m : InstrD), L[j]? = some m → j ≠ i → EntAt w wr (fun q => q = cb ∨ (Value.slice va n.vals.length vc).ownBlock = some q) cs j m (decide (j < i))
 row : InstrRow cs i n (.slice ka n.key.length kc) (.slice va n.vals.length vc)
 key : NewS w.heap.size (fun q => q = cb ∨ (Value.slice va n.vals.length vc).ownBlock = some q) wr (fun w => TermsAt w (.slice ka n.key.length kc) n.key)
 vals : VaI w wr (fun q => q = cb ∨ (Value.slice va n.vals.length vc).ownBlock = some q) va vc k n.vals tvs
 ne : (Value.slice va n.vals.length vc).ownBlock ≠ some cb
 fr : Fr w wr Nil
theorem Mid.done {w wr : World} {cb c i : Nat} {n : InstrD} {L : List InstrD} {cs : List Value} {ka va : Option Addr} {kc vc : Nat} {tvs : List Value} (h : Mid w wr cb c i n L cs ka va kc vc n.vals.length tvs) (hn : L[i]? = some n) : ClI w wr (fun q => q = cb) cb c (i + 1) L cs := by
 refine ⟨h.own, fun j m hm => ?_, h.fr⟩
 by_cases e : j = i
 ·subst e
  rw [hn] at hm
  cases hm
  refine ⟨ka, kc, va, vc, h.row, fun _ => (h.key.weak fun k hk => .inl hk).and (h.vals.vals (fun k hk => .inl hk) fun k hk e => h.ne (by rw [hk, e])), fun e => ?_⟩
  simp at e
 ·obtain ⟨a, b, c', d, h1, h2, h3⟩ := h.ent j m hm e
  refine ⟨a, b, c', d, h1, fun e2 => (h2 ?_).weak fun k hk => .inl hk, fun e2 => h3 ?_⟩
  ·have : j < i + 1 := by simpa using e2
   exact decide_eq_true (by omega)
  ·have : ¬ j < i + 1 := by simpa using e2
   exact decide_eq_false (by omega)
/-- Both slices of instruction i are put in. -/
theorem ClI.mid {w wr w7 : World} {cb c i : Nat} {n : InstrD} {L : List InstrD} {cs : List Value} {ka0 va0 ka va : Option Addr} {kc0 vc0 kc vc : Nat} {tvs : List Value} (h : ClI w wr (fun q => q = cb) cb c i L cs)
  (hrow : InstrRow cs i n (.slice ka0 n.key.length kc0) (.slice va0 n.vals.length vc0)) (hf : Fr wr w7 Nil)
  (hk : w7.ownsRow wr.heap.size 84 3 (.slice ka n.key.length kc) n.key.length (n.key.flatMap TermD.vals)) (hv : w7.ownsRow wr.heap.size 77 1 (.slice va n.vals.length vc) n.vals.length tvs)
  (hkv : ∀ q, (Value.slice va n.vals.length vc).ownBlock = some q → (Value.slice ka n.key.length kc).ownBlock ≠ some q)
  (ht : ∀ (t : Nat) (x : List TermD), n.vals[t]? = some x → ∃ xa xc, tvs[t]? = some (.slice xa x.length xc) ∧ TermsAt w (.slice xa x.length xc) x) :
  Mid w ((w7.setCell ⟨cb, i * 13 + 11, none⟩ (.slice ka n.key.length kc)).setCell ⟨cb, i * 13 + 12, none⟩ (.slice va n.vals.length vc)) cb c i n L ((cs.set (i * 13 + 11) (.slice ka n.key.length kc)).set (i * 13 + 12) (.slice va n.vals.length vc)) ka va kc vc 0 tvs := by
 have hcb := (World.ownsRow.lt h.own cb rfl)
 have hsz := h.fr.size
 have h7 := hf.own h.own fun _ _ h => h
 have hs1 := World.ownsRow.stored h7 (i * 13 + 11) (.slice ka n.key.length kc)
 have hs2 := World.ownsRow.stored hs1.1 (i * 13 + 12) (.slice va n.vals.length vc)
 have f1 := Fr.store w7 cb (i * 13 + 11) (.slice ka n.key.length kc)
 have f2 := Fr.store (w7.setCell ⟨cb, i * 13 + 11, none⟩ (.slice ka n.key.length kc)) cb (i * 13 + 12) (.slice va n.vals.length vc)
 have f12 : Fr w7 _ (fun q => q = cb) := f1.transS f2
 have hvb : ∀ q, (Value.slice va n.vals.length vc).ownBlock = some q → wr.heap.size ≤ q := fun q hq => (World.ownsRow.lt hv q hq).1
 have hkb : ∀ q, (Value.slice ka n.key.length kc).ownBlock = some q → wr.heap.size ≤ q := fun q hq => (World.ownsRow.lt hk q hq).1
 refine ⟨hs2.1, fun j m hm hj => ?_, (hrow.setK _).setV _, ?_, ⟨(f12.own (own_in hv (by omega)) fun q hq e => by have := hvb q hq; omega), fun t x hx => ?_⟩, fun e => by have := hvb cb e; omega, (h.fr.trans0 hf).trans f12 fun k hk e => by omega⟩
 ·obtain ⟨a, b, c', d, h1, h2, h3⟩ := h.ent j m hm
  refine ⟨a, b, c', d, (h1.other hj 11 (by decide) _).other hj 12 (by decide) _, fun e => ?_, h3⟩
  refine (((h2 e).also fun k hk => ?_).fr0 hf).fr f12 fun k _ _ hk e => hk (.inl e)
  exact hk.imp id (hvb k)
 ·refine (NewS.terms (own_in hk (by omega)) ?_).fr f12 fun k _ _ hk e => hk (.inl e)
  intro k hk2 hk3
  rcases hk3 with rfl | hk3
  ·have := hkb k hk2; omega
  ·exact hkv k hk3 hk2
 ·obtain ⟨xa, xc, h1, h2⟩ := ht t x hx
  exact ⟨xa, xc, h1, fun h => by omega, fun _ => h2⟩
/-- One value more. -/
theorem Mid.next {w wr w9 : World} {cb c i vb : Nat} {n : InstrD} {L : List InstrD} {cs : List Value} {ka xa : Option Addr} {kc vc k xc : Nat} {tvs : List Value} {x : List TermD} (h : Mid w wr cb c i n L cs ka (some ⟨vb, 0, none⟩) kc vc k tvs) (hx : n.vals[k]? = some x) (hf : Fr wr w9 Nil)
  (ho : w9.ownsRow wr.heap.size 84 3 (.slice xa x.length xc) x.length (x.flatMap TermD.vals)) :
  Mid w (w9.setCell ⟨vb, k, none⟩ (.slice xa x.length xc)) cb c i n L cs ka (some ⟨vb, 0, none⟩) kc vc (k + 1) (tvs.set k (.slice xa x.length xc)) := by
 have hcb := (World.ownsRow.lt h.own cb rfl)
 have hvb := (World.ownsRow.lt h.vals.own vb rfl)
 have hsz := h.fr.size
 have hne : vb ≠ cb := fun e => h.ne (by rw [← e]; rfl)
 have f1 := Fr.store w9 vb k (.slice xa x.length xc)
 have hs := World.ownsRow.stored (hf.own h.vals.own fun _ _ h => h) k (.slice xa x.length xc)
 have hd : ∀ q, w.heap.size ≤ q → q < w9.heap.size → ¬ (q = cb ∨ (Value.slice (some ⟨vb, 0, none⟩) n.vals.length vc).ownBlock = some q) → ¬ q = vb := fun q _ _ hq e => hq (.inr (by rw [e]; rfl))
 refine ⟨f1.own (hf.own h.own fun _ _ h => h) (fun q hq e => by cases hq; exact hne e.symm), fun j m hm hj => (((h.ent j m hm hj).fr hf fun _ _ _ _ h => h).fr f1 hd), h.row, (h.key.fr0 hf).fr f1 hd, ⟨hs.1, fun t y hy => ?_⟩, h.ne, (h.fr.trans0 hf).trans f1 fun q hq e => by omega⟩
 by_cases e : t = k
 ·subst e
  rw [hx] at hy
  cases hy
  obtain ⟨_, _, h1, _⟩ := h.vals.ent t x hx
  refine ⟨xa, xc, List.getElem?_set_self (List.getElem?_eq_some_iff.1 h1).1, fun _ => ?_, fun e => by omega⟩
  refine (NewS.terms (own_in ho (by omega)) ?_).fr f1 hd
  intro q hq hq2
  have := (World.ownsRow.lt ho q hq).1
  rcases hq2 with rfl | hq2
  ·omega
  ·have hq3 : vb = q := by simpa [Value.ownBlock] using hq2
   omega
 ·obtain ⟨ya, yc, h1, h2, h3⟩ := h.vals.ent t y hy
  refine ⟨ya, yc, by rw [List.getElem?_set_ne (fun h => e h.symm)]; exact h1, fun ht => ((h2 (by omega)).fr0 hf).fr f1 hd, fun ht => h3 (by omega)⟩
theorem csl_fr0 {w w' : World} {size n : Nat} {v : Value} {cs : List Value} (h : CSl w size v n cs) (hf : Fr w w' Nil) : CSl w' size v n cs := by
 obtain ⟨h1, a, cap, rfl, h2, h3⟩ := h
 exact ⟨h1, a, cap, rfl, h2, fun ad he j u hu => hf.cell (h3 ad he j u hu) fun h => h⟩
def CodeRet (L : List InstrD) (w : World) (e : Ending) (w' : World) : Prop := ∃ a c, e = .returned (.slice a L.length c) ∧ NewS w.heap.size (fun _ => False) w' (fun w => CodeAt w (.slice a L.length c) L) ∧ Fr w w' Nil
set_option maxRecDepth 100000 in
set_option maxHeartbeats 8000000 in
theorem iclone_any (lv : Value) (L : List InstrD) (w : World) (h : CodeAt w lv L) (hf : FewC L) (h0 : 0 < L.length) :
  Calls Tryz.prog 39 #[lv] w (CodeRet L w) := by
 obtain ⟨cs, hcs, h1, he⟩ := h.cells (fun q => q = w.heap.size)
 obtain ⟨la, lc, rfl⟩ := h.shape
 have HFEW := Lib.hid hf
 have hLl := hf.1
 have HCS := Lib.hid hcs
 have H1 := Lib.hid h1
 have HENT := Lib.hid he
 clear h hf hcs h1 he
 go_enter Tryz.func39, Tryz.ntmps39
 go_wp2_with fail
 refine (cloneI_any _ L.length cs _ HCS.out H1.out hLl).mono ?_
 rintro e w1 ⟨a1, c1, rfl, ho, hf⟩
 obtain ⟨cb, c, hcb, _⟩ : ∃ g cap, Value.slice a1 L.length c1 = .slice (some ⟨g, 0, none⟩) L.length cap ∧ True := by
  rcases ho.2 with ⟨_, h2⟩ | ⟨g, cap, cur, hv, _⟩
  ·omega
  ·exact ⟨g, cap, hv, trivial⟩
 simp only [Value.slice.injEq, true_and] at hcb
 obtain ⟨rfl, rfl⟩ := hcb
 have HI0 : Hid (ClI w w1 (fun q => q = cb) cb c1 0 L cs) := Lib.hid ⟨ho, fun j n hn => by
  obtain ⟨ka, kc, va, vc, h2, _, h4⟩ := HENT.out j n hn
  exact ⟨ka, kc, va, vc, h2, fun e => by simp at e, fun _ => h4 rfl⟩, hf⟩
 clear ho hf
 go_wp2_with fail
 go_loopw [9] (fun vi wr => ∃ (i : Nat) (cs : List Value), i ≤ L.length ∧ vi = .int .i64 i ∧ ClI w wr (fun q => q = cb) cb c1 i L cs) (fun vi _ => L.length - (intOf vi).toNat)
 case atStart => exact ⟨0, cs, by omega, rfl, HI0.out⟩
 case round =>
  clear HI0 HCS H1 HENT
  obtain ⟨i, cs, hi, rfl, hcl⟩ := hrel
  have HI := Lib.hid hcl
  obtain ⟨wo, rfl⟩ : ∃ wo : World, wo = wr := ⟨_, rfl⟩
  clear hcl
  by_cases hlt : i < L.length
  ·have hg := List.getElem?_eq_getElem hlt
   generalize L[i] = n at hg
   obtain ⟨ka, kc, va, vc, hrow, _, hor⟩ := HI.out.ent i n hg
   obtain ⟨hkt, hvt⟩ := hor (by simp)
   have HROW := Lib.hid hrow
   have HKT := Lib.hid hkt
   have HVT := Lib.hid hvt
   have HG := Lib.hid hg
   have HNF := Lib.hid (HFEW.out.2 n (List.mem_of_getElem? hg))
   have p11 := (World.ownsRow.cellAt HI.out.own (i * 13 + 11) (by omega)).trans (hrow 11 _ rfl)
   have p12 := (World.ownsRow.cellAt HI.out.own (i * 13 + 12) (by omega)).trans (hrow 12 _ rfl)
   have P11 := Lib.hid p11
   have P12 := Lib.hid p12
   have HT1 : Hid (∀ l : List TermD, ∀ u ∈ l.flatMap TermD.vals, u.oneCell' = true) := fun l u hu => by
    rw [List.mem_flatMap] at hu
    obtain ⟨t, _, hu⟩ := hu
    simp only [TermD.vals, List.mem_cons, List.not_mem_nil, or_false] at hu
    rcases hu with rfl | rfl | rfl <;> rfl
   obtain ⟨tvs0, hcv, hcv1, htv⟩ := HVT.out.cells
   have HCV := Lib.hid (csl_fr0 hcv HI.out.fr)
   have HCV1 := Lib.hid hcv1
   have HTV := Lib.hid htv
   clear hcv hcv1 htv
   have hii : (i : Int) < (L.length : Int) := by omega
   clear hrow hkt hvt hg hor p11 p12
   go_wp2_with fail
   refine wp_region_sink 21 (fun _ => True) (by kernel_rfl) ?_
   have hSa : (fun _ : World => True) wo.drew := trivial
   refine tk 0 hSa ?_
   refine tk 1 hSa ?_
   refine tk 2 hSa ?_
   refine tk 3 hSa ?_
   refine tk 4 hSa ?_
   refine tk 5 hSa ?_
   refine tk 6 hSa ?_
   refine tk 7 hSa ?_
   refine tk 10 hSa ?_
   refine tk 11 hSa ?_
   refine tk 12 hSa ?_
   refine tk 13 hSa ?_
   try simp only [Act.put, sA, sB, sC]
   refine wpAnyS_two (i := 8) (j := 14) rfl rfl (by kernel_rfl) (by decide) (by decide) (by rfl) (by rfl) (fun K hK => ?_) (fun K hK => ?_)
   ·have c0 := (Fr.refl wo Nil).drew.cell P11.out fun h => h
    go_simp
    refine hK.out _ _ trivial ?_
    clear hK K c0
    try simp only [Act.put, sA, sB, sC]
    refine wpAnyS_two (i := 9) (j := 14) rfl rfl (by kernel_rfl) (by decide) (by decide) (by rfl) (by rfl) (fun K hK => ?_) (fun K hK => ?_)
    ·go_simp
     refine (cloneT_any _ n.key.length _ _ (CSl.of_sl ((HKT.out.fr0 HI.out.fr).fr0 ((Fr.refl wo Nil).drew))) (HT1.out _) HNF.out.1).mono ?_
     rintro e w5 ⟨ka2, kc2, rfl, ho5, hf5⟩
     refine hK.out _ _ trivial ?_
     clear hK K
     try simp only [Act.put, sA, sB, sC]
     have HF5 : Hid (Fr wo w5 Nil) := Lib.hid ((Fr.refl wo Nil).drew.trans0 hf5)
     have HF5s : Hid (wo.heap.size ≤ w5.heap.size) := HF5.out.size
     refine on1 14 fun K hK => ?_
     have c0 := HF5.out.cell P12.out fun h => h
     go_simp
     refine hK.out _ _ trivial ?_
     clear hK K c0
     try simp only [Act.put, sA, sB, sC]
     refine on1 15 fun K hK => ?_
     go_simp
     refine (cloneV_any _ n.vals.length tvs0 _ (csl_fr0 HCV.out HF5.out) HCV1.out HNF.out.2.1).mono ?_
     rintro e w7 ⟨va2, vc2, rfl, ho7, hf7⟩
     refine hK.out _ _ trivial ?_
     clear hK K
     try simp only [Act.put, sA, sB, sC]
     have hkn : ∀ q, (Value.slice va2 n.vals.length vc2).ownBlock = some q → (Value.slice ka2 n.key.length kc2).ownBlock ≠ some q := fun q h1 h2 => by
      have := (World.ownsRow.lt ho7 q h1).1
      have := (World.ownsRow.lt ho5 q h2).2
      omega
     have hs5 := HF5s.out
     have HM := Lib.hid (HI.out.mid HROW.out (HF5.out.trans0 hf7) (own_in (hf7.own ho5 fun _ _ h => h) (Nat.le_refl _)) (own_in ho7 (by omega)) hkn HTV.out)
     have z1 := World.ownsRow.frozenAt ((HF5.out.trans0 hf7).own HI.out.own fun _ _ h => h) (i * 13 + 11)
     have z2 := fun u => World.ownsRow.frozenAt (World.ownsRow.stored ((HF5.out.trans0 hf7).own HI.out.own fun _ _ h => h) (i * 13 + 11) u).1 (i * 13 + 12)
     have z3 := (HF5.out.trans0 hf7).cell P11.out fun h => h
     have z4 := fun u => (World.ownsRow.cellAt (World.ownsRow.stored ((HF5.out.trans0 hf7).own HI.out.own fun _ _ h => h) (i * 13 + 11) u).1 (i * 13 + 12) (by omega)).trans ((HROW.out.setK u) 12 _ rfl)
     clear ho5 ho7 hf5 hf7 hkn hs5 HF5 HF5s
     refine tk 16 hSa ?_
     refine tk 17 hSa ?_
     try simp only [Act.put, sA, sB, sC]
     refine on1 18 fun K hK => ?_
     go_simp
     refine hK.out _ _ trivial ?_
     clear hK K
     try simp only [Act.put, sA, sB, sC]
     refine tk 19 hSa ?_
     refine tk 20 hSa ?_
     try simp only [Act.put, sA, sB, sC]
     refine wpAnyS_last (i := 21) rfl (by kernel_rfl) (by decide) (by kernel_rfl) (by rfl) fun K hK => ?_
     go_simp
     refine hK.out _ _ ?_
     clear hK K z1 z2 z3 z4 hSa
     obtain ⟨cs2, hcs2⟩ : ∃ cs2, cs2 = (cs.set (i * 13 + 11) (Value.slice ka2 n.key.length kc2)).set (i * 13 + 12) (.slice va2 n.vals.length vc2) := ⟨_, rfl⟩
     rw [← hcs2] at HM
     clear hcs2
     obtain ⟨w8, hw8⟩ : ∃ w8, w8 = (w7.setCell ⟨cb, i * 13 + 11, none⟩ (.slice ka2 n.key.length kc2)).setCell ⟨cb, i * 13 + 12, none⟩ (.slice va2 n.vals.length vc2) := ⟨_, rfl⟩
     rw [← hw8] at HM ⊢
     clear hw8
     have hvl := HNF.out.2.1
     have y12 := (World.ownsRow.cellAt HM.out.own (i * 13 + 12) (by omega)).trans (HM.out.row 12 _ rfl)
     go_wp2_with fail
     go_loopw [38] (fun vk wr => ∃ (k : Nat) (tvs : List Value), k ≤ n.vals.length ∧ vk = .int .i64 k ∧ Mid w wr cb c1 i n L cs2 ka2 va2 kc2 vc2 k tvs) (fun vk _ => n.vals.length - (intOf vk).toNat)
     case atStart => exact ⟨0, tvs0, by omega, rfl, HM.out⟩
     case round =>
      clear HM y12
      obtain ⟨k, tvs, hk, rfl, hm⟩ := hrel
      have HM := Lib.hid hm
      obtain ⟨wi, rfl⟩ : ∃ wi : World, wi = wr := ⟨_, rfl⟩
      clear hm
      by_cases hlk : k < n.vals.length
      ·have hgx := List.getElem?_eq_getElem hlk
       have hxl := HNF.out.2.2 _ (List.mem_of_getElem? hgx)
       generalize n.vals[k] = x at hgx hxl
       obtain ⟨vb, hvb⟩ : ∃ vb, va2 = some ⟨vb, 0, none⟩ := by
        rcases HM.out.vals.own.2 with ⟨_, h2⟩ | ⟨g, cap, cur, hv, _⟩
        ·omega
        ·simp only [Value.slice.injEq] at hv
         exact ⟨g, hv.1⟩
       subst hvb
       obtain ⟨xa, xc, hx1, _, hx2⟩ := HM.out.vals.ent k x hgx
       have q12 := (World.ownsRow.cellAt HM.out.own (i * 13 + 12) (by omega)).trans (HM.out.row 12 _ rfl)
       have qv := (World.ownsRow.cellAt HM.out.vals.own k (by omega)).trans hx1
       have HXT := Lib.hid ((hx2 (Nat.le_refl _)).fr0 HM.out.fr)
       have HGX := Lib.hid hgx
       have j12 := KeptF.cell q12
       have jv := KeptF.cell qv
       have hkk : (k : Int) < (n.vals.length : Int) := by omega
       clear hgx hx1 hx2 q12 qv
       go_wp2_with fail
       refine wp_region_sink 16 (KeptF wi) (by kernel_rfl) ?_
       have hSb : KeptF wi wi.drew := KeptF.start _
       refine tk 0 hSb ?_
       refine tk 1 hSb ?_
       refine tk 2 hSb ?_
       refine tk 3 hSb ?_
       try simp only [Act.put, sA, sB, sC]
       refine tk 4 hSb ?_ (hy := by intro _ w; have cj12 := j12 _ w; go_simp <;> with_reducible rfl)
       try simp only [Act.put, sA, sB, sC]
       refine tk 5 hSb ?_
       refine tk 6 hSb ?_
       refine tk 7 hSb ?_
       refine tk 8 hSb ?_
       refine tk 9 hSb ?_
       try simp only [Act.put, sA, sB, sC]
       refine tk 10 hSb ?_ (hy := by intro _ w; have cj12 := j12 _ w; go_simp <;> with_reducible rfl)
       try simp only [Act.put, sA, sB, sC]
       refine tk 11 hSb ?_
       refine tk 12 hSb ?_
       try simp only [Act.put, sA, sB, sC]
       refine tk 13 hSb ?_ (hy := by intro _ w; have cjv := jv _ w; go_simp <;> with_reducible rfl)
       try simp only [Act.put, sA, sB, sC]
       refine on1 14 fun K hK => ?_
       go_simp
       refine (cloneT_any _ x.length _ _ (CSl.of_sl (HXT.out.fr0 hSb.fr)) (HT1.out _) hxl).mono ?_
       rintro e w9 ⟨xa2, xc2, rfl, ho9, hf9⟩
       have hSc := KeptF.next hSb hf9
       refine hK.out _ _ hSc ?_
       clear hK K
       try simp only [Act.put, sA, sB, sC]
       refine tk 15 hSc ?_
       try simp only [Act.put, sA, sB, sC]
       have fz := World.ownsRow.frozenAt ((KeptF.fr hSc).own HM.out.vals.own fun _ _ h => h) k
       have HN := Lib.hid (HM.out.next HGX.out (KeptF.fr hSc) ho9)
       refine wpAnyS_last (i := 16) rfl (by kernel_rfl) (by decide) (by kernel_rfl) (by rfl) fun K hK => ?_
       go_simp
       refine hK.out _ _ ?_
       clear hK K hSb hSc fz j12 jv ho9 hf9
       go_wp2_with fail
       go_roundw
       case rel => exact ⟨k + 1, _, by omega, by go_num, HN.out⟩
       case measure => simp [intOf]; omega
      ·obtain rfl : k = n.vals.length := by omega
       have hkk : ¬ (n.vals.length : Int) < (n.vals.length : Int) := by omega
       have HD := Lib.hid (HM.out.done HG.out)
       clear hlk hk HM
       go_wp2_with fail
       go_roundw
       case rel => exact ⟨i + 1, cs2, by omega, by go_num, HD.out⟩
       case measure => simp [intOf]; omega
    ·have c0 := (Fr.refl wo Nil).drew.cell P12.out fun h => h
     go_simp
     refine hK.out _ _ trivial ?_
     clear hK K c0
     try simp only [Act.put, sA, sB, sC]
     refine on1 9 fun K hK => ?_
     go_simp
     refine (cloneT_any _ n.key.length _ _ (CSl.of_sl ((HKT.out.fr0 HI.out.fr).fr0 ((Fr.refl wo Nil).drew))) (HT1.out _) HNF.out.1).mono ?_
     rintro e w5 ⟨ka2, kc2, rfl, ho5, hf5⟩
     refine hK.out _ _ trivial ?_
     clear hK K
     try simp only [Act.put, sA, sB, sC]
     have HF5 : Hid (Fr wo w5 Nil) := Lib.hid ((Fr.refl wo Nil).drew.trans0 hf5)
     have HF5s : Hid (wo.heap.size ≤ w5.heap.size) := HF5.out.size
     refine on1 15 fun K hK => ?_
     go_simp
     refine (cloneV_any _ n.vals.length tvs0 _ (csl_fr0 HCV.out HF5.out) HCV1.out HNF.out.2.1).mono ?_
     rintro e w7 ⟨va2, vc2, rfl, ho7, hf7⟩
     refine hK.out _ _ trivial ?_
     clear hK K
     try simp only [Act.put, sA, sB, sC]
     have hkn : ∀ q, (Value.slice va2 n.vals.length vc2).ownBlock = some q → (Value.slice ka2 n.key.length kc2).ownBlock ≠ some q := fun q h1 h2 => by
      have := (World.ownsRow.lt ho7 q h1).1
      have := (World.ownsRow.lt ho5 q h2).2
      omega
     have hs5 := HF5s.out
     have HM := Lib.hid (HI.out.mid HROW.out (HF5.out.trans0 hf7) (own_in (hf7.own ho5 fun _ _ h => h) (Nat.le_refl _)) (own_in ho7 (by omega)) hkn HTV.out)
     have z1 := World.ownsRow.frozenAt ((HF5.out.trans0 hf7).own HI.out.own fun _ _ h => h) (i * 13 + 11)
     have z2 := fun u => World.ownsRow.frozenAt (World.ownsRow.stored ((HF5.out.trans0 hf7).own HI.out.own fun _ _ h => h) (i * 13 + 11) u).1 (i * 13 + 12)
     have z3 := (HF5.out.trans0 hf7).cell P11.out fun h => h
     have z4 := fun u => (World.ownsRow.cellAt (World.ownsRow.stored ((HF5.out.trans0 hf7).own HI.out.own fun _ _ h => h) (i * 13 + 11) u).1 (i * 13 + 12) (by omega)).trans ((HROW.out.setK u) 12 _ rfl)
     clear ho5 ho7 hf5 hf7 hkn hs5 HF5 HF5s
     refine tk 16 hSa ?_
     refine tk 17 hSa ?_
     try simp only [Act.put, sA, sB, sC]
     refine on1 18 fun K hK => ?_
     go_simp
     refine hK.out _ _ trivial ?_
     clear hK K
     try simp only [Act.put, sA, sB, sC]
     refine tk 19 hSa ?_
     refine tk 20 hSa ?_
     try simp only [Act.put, sA, sB, sC]
     refine wpAnyS_last (i := 21) rfl (by kernel_rfl) (by decide) (by kernel_rfl) (by rfl) fun K hK => ?_
     go_simp
     refine hK.out _ _ ?_
     clear hK K z1 z2 z3 z4 hSa
     obtain ⟨cs2, hcs2⟩ : ∃ cs2, cs2 = (cs.set (i * 13 + 11) (Value.slice ka2 n.key.length kc2)).set (i * 13 + 12) (.slice va2 n.vals.length vc2) := ⟨_, rfl⟩
     rw [← hcs2] at HM
     clear hcs2
     obtain ⟨w8, hw8⟩ : ∃ w8, w8 = (w7.setCell ⟨cb, i * 13 + 11, none⟩ (.slice ka2 n.key.length kc2)).setCell ⟨cb, i * 13 + 12, none⟩ (.slice va2 n.vals.length vc2) := ⟨_, rfl⟩
     rw [← hw8] at HM ⊢
     clear hw8
     have hvl := HNF.out.2.1
     have y12 := (World.ownsRow.cellAt HM.out.own (i * 13 + 12) (by omega)).trans (HM.out.row 12 _ rfl)
     go_wp2_with fail
     go_loopw [38] (fun vk wr => ∃ (k : Nat) (tvs : List Value), k ≤ n.vals.length ∧ vk = .int .i64 k ∧ Mid w wr cb c1 i n L cs2 ka2 va2 kc2 vc2 k tvs) (fun vk _ => n.vals.length - (intOf vk).toNat)
     case atStart => exact ⟨0, tvs0, by omega, rfl, HM.out⟩
     case round =>
      clear HM y12
      obtain ⟨k, tvs, hk, rfl, hm⟩ := hrel
      have HM := Lib.hid hm
      obtain ⟨wi, rfl⟩ : ∃ wi : World, wi = wr := ⟨_, rfl⟩
      clear hm
      by_cases hlk : k < n.vals.length
      ·have hgx := List.getElem?_eq_getElem hlk
       have hxl := HNF.out.2.2 _ (List.mem_of_getElem? hgx)
       generalize n.vals[k] = x at hgx hxl
       obtain ⟨vb, hvb⟩ : ∃ vb, va2 = some ⟨vb, 0, none⟩ := by
        rcases HM.out.vals.own.2 with ⟨_, h2⟩ | ⟨g, cap, cur, hv, _⟩
        ·omega
        ·simp only [Value.slice.injEq] at hv
         exact ⟨g, hv.1⟩
       subst hvb
       obtain ⟨xa, xc, hx1, _, hx2⟩ := HM.out.vals.ent k x hgx
       have q12 := (World.ownsRow.cellAt HM.out.own (i * 13 + 12) (by omega)).trans (HM.out.row 12 _ rfl)
       have qv := (World.ownsRow.cellAt HM.out.vals.own k (by omega)).trans hx1
       have HXT := Lib.hid ((hx2 (Nat.le_refl _)).fr0 HM.out.fr)
       have HGX := Lib.hid hgx
       have j12 := KeptF.cell q12
       have jv := KeptF.cell qv
       have hkk : (k : Int) < (n.vals.length : Int) := by omega
       clear hgx hx1 hx2 q12 qv
       go_wp2_with fail
       refine wp_region_sink 16 (KeptF wi) (by kernel_rfl) ?_
       have hSb : KeptF wi wi.drew := KeptF.start _
       refine tk 0 hSb ?_
       refine tk 1 hSb ?_
       refine tk 2 hSb ?_
       refine tk 3 hSb ?_
       try simp only [Act.put, sA, sB, sC]
       refine tk 4 hSb ?_ (hy := by intro _ w; have cj12 := j12 _ w; go_simp <;> with_reducible rfl)
       try simp only [Act.put, sA, sB, sC]
       refine tk 5 hSb ?_
       refine tk 6 hSb ?_
       refine tk 7 hSb ?_
       refine tk 8 hSb ?_
       refine tk 9 hSb ?_
       try simp only [Act.put, sA, sB, sC]
       refine tk 10 hSb ?_ (hy := by intro _ w; have cj12 := j12 _ w; go_simp <;> with_reducible rfl)
       try simp only [Act.put, sA, sB, sC]
       refine tk 11 hSb ?_
       refine tk 12 hSb ?_
       try simp only [Act.put, sA, sB, sC]
       refine tk 13 hSb ?_ (hy := by intro _ w; have cjv := jv _ w; go_simp <;> with_reducible rfl)
       try simp only [Act.put, sA, sB, sC]
       refine on1 14 fun K hK => ?_
       go_simp
       refine (cloneT_any _ x.length _ _ (CSl.of_sl (HXT.out.fr0 hSb.fr)) (HT1.out _) hxl).mono ?_
       rintro e w9 ⟨xa2, xc2, rfl, ho9, hf9⟩
       have hSc := KeptF.next hSb hf9
       refine hK.out _ _ hSc ?_
       clear hK K
       try simp only [Act.put, sA, sB, sC]
       refine tk 15 hSc ?_
       try simp only [Act.put, sA, sB, sC]
       have fz := World.ownsRow.frozenAt ((KeptF.fr hSc).own HM.out.vals.own fun _ _ h => h) k
       have HN := Lib.hid (HM.out.next HGX.out (KeptF.fr hSc) ho9)
       refine wpAnyS_last (i := 16) rfl (by kernel_rfl) (by decide) (by kernel_rfl) (by rfl) fun K hK => ?_
       go_simp
       refine hK.out _ _ ?_
       clear hK K hSb hSc fz j12 jv ho9 hf9
       go_wp2_with fail
       go_roundw
       case rel => exact ⟨k + 1, _, by omega, by go_num, HN.out⟩
       case measure => simp [intOf]; omega
      ·obtain rfl : k = n.vals.length := by omega
       have hkk : ¬ (n.vals.length : Int) < (n.vals.length : Int) := by omega
       have HD := Lib.hid (HM.out.done HG.out)
       clear hlk hk HM
       go_wp2_with fail
       go_roundw
       case rel => exact ⟨i + 1, cs2, by omega, by go_num, HD.out⟩
       case measure => simp [intOf]; omega
   ·have c0 := (Fr.refl wo Nil).drew.cell P12.out fun h => h
    go_simp
    refine hK.out _ _ trivial ?_
    clear hK K c0
    try simp only [Act.put, sA, sB, sC]
    refine on1 8 fun K hK => ?_
    have c0 := (Fr.refl wo Nil).drew.cell P11.out fun h => h
    go_simp
    refine hK.out _ _ trivial ?_
    clear hK K c0
    try simp only [Act.put, sA, sB, sC]
    refine on1 9 fun K hK => ?_
    go_simp
    refine (cloneT_any _ n.key.length _ _ (CSl.of_sl ((HKT.out.fr0 HI.out.fr).fr0 ((Fr.refl wo Nil).drew))) (HT1.out _) HNF.out.1).mono ?_
    rintro e w5 ⟨ka2, kc2, rfl, ho5, hf5⟩
    refine hK.out _ _ trivial ?_
    clear hK K
    try simp only [Act.put, sA, sB, sC]
    have HF5 : Hid (Fr wo w5 Nil) := Lib.hid ((Fr.refl wo Nil).drew.trans0 hf5)
    have HF5s : Hid (wo.heap.size ≤ w5.heap.size) := HF5.out.size
    refine on1 15 fun K hK => ?_
    go_simp
    refine (cloneV_any _ n.vals.length tvs0 _ (csl_fr0 HCV.out HF5.out) HCV1.out HNF.out.2.1).mono ?_
    rintro e w7 ⟨va2, vc2, rfl, ho7, hf7⟩
    refine hK.out _ _ trivial ?_
    clear hK K
    try simp only [Act.put, sA, sB, sC]
    have hkn : ∀ q, (Value.slice va2 n.vals.length vc2).ownBlock = some q → (Value.slice ka2 n.key.length kc2).ownBlock ≠ some q := fun q h1 h2 => by
     have := (World.ownsRow.lt ho7 q h1).1
     have := (World.ownsRow.lt ho5 q h2).2
     omega
    have hs5 := HF5s.out
    have HM := Lib.hid (HI.out.mid HROW.out (HF5.out.trans0 hf7) (own_in (hf7.own ho5 fun _ _ h => h) (Nat.le_refl _)) (own_in ho7 (by omega)) hkn HTV.out)
    have z1 := World.ownsRow.frozenAt ((HF5.out.trans0 hf7).own HI.out.own fun _ _ h => h) (i * 13 + 11)
    have z2 := fun u => World.ownsRow.frozenAt (World.ownsRow.stored ((HF5.out.trans0 hf7).own HI.out.own fun _ _ h => h) (i * 13 + 11) u).1 (i * 13 + 12)
    have z3 := (HF5.out.trans0 hf7).cell P11.out fun h => h
    have z4 := fun u => (World.ownsRow.cellAt (World.ownsRow.stored ((HF5.out.trans0 hf7).own HI.out.own fun _ _ h => h) (i * 13 + 11) u).1 (i * 13 + 12) (by omega)).trans ((HROW.out.setK u) 12 _ rfl)
    clear ho5 ho7 hf5 hf7 hkn hs5 HF5 HF5s
    refine tk 16 hSa ?_
    refine tk 17 hSa ?_
    try simp only [Act.put, sA, sB, sC]
    refine on1 18 fun K hK => ?_
    go_simp
    refine hK.out _ _ trivial ?_
    clear hK K
    try simp only [Act.put, sA, sB, sC]
    refine tk 19 hSa ?_
    refine tk 20 hSa ?_
    try simp only [Act.put, sA, sB, sC]
    refine wpAnyS_last (i := 21) rfl (by kernel_rfl) (by decide) (by kernel_rfl) (by rfl) fun K hK => ?_
    go_simp
    refine hK.out _ _ ?_
    clear hK K z1 z2 z3 z4 hSa
    obtain ⟨cs2, hcs2⟩ : ∃ cs2, cs2 = (cs.set (i * 13 + 11) (Value.slice ka2 n.key.length kc2)).set (i * 13 + 12) (.slice va2 n.vals.length vc2) := ⟨_, rfl⟩
    rw [← hcs2] at HM
    clear hcs2
    obtain ⟨w8, hw8⟩ : ∃ w8, w8 = (w7.setCell ⟨cb, i * 13 + 11, none⟩ (.slice ka2 n.key.length kc2)).setCell ⟨cb, i * 13 + 12, none⟩ (.slice va2 n.vals.length vc2) := ⟨_, rfl⟩
    rw [← hw8] at HM ⊢
    clear hw8
    have hvl := HNF.out.2.1
    have y12 := (World.ownsRow.cellAt HM.out.own (i * 13 + 12) (by omega)).trans (HM.out.row 12 _ rfl)
    go_wp2_with fail
    go_loopw [38] (fun vk wr => ∃ (k : Nat) (tvs : List Value), k ≤ n.vals.length ∧ vk = .int .i64 k ∧ Mid w wr cb c1 i n L cs2 ka2 va2 kc2 vc2 k tvs) (fun vk _ => n.vals.length - (intOf vk).toNat)
    case atStart => exact ⟨0, tvs0, by omega, rfl, HM.out⟩
    case round =>
     clear HM y12
     obtain ⟨k, tvs, hk, rfl, hm⟩ := hrel
     have HM := Lib.hid hm
     obtain ⟨wi, rfl⟩ : ∃ wi : World, wi = wr := ⟨_, rfl⟩
     clear hm
     by_cases hlk : k < n.vals.length
     ·have hgx := List.getElem?_eq_getElem hlk
      have hxl := HNF.out.2.2 _ (List.mem_of_getElem? hgx)
      generalize n.vals[k] = x at hgx hxl
      obtain ⟨vb, hvb⟩ : ∃ vb, va2 = some ⟨vb, 0, none⟩ := by
       rcases HM.out.vals.own.2 with ⟨_, h2⟩ | ⟨g, cap, cur, hv, _⟩
       ·omega
       ·simp only [Value.slice.injEq] at hv
        exact ⟨g, hv.1⟩
      subst hvb
      obtain ⟨xa, xc, hx1, _, hx2⟩ := HM.out.vals.ent k x hgx
      have q12 := (World.ownsRow.cellAt HM.out.own (i * 13 + 12) (by omega)).trans (HM.out.row 12 _ rfl)
      have qv := (World.ownsRow.cellAt HM.out.vals.own k (by omega)).trans hx1
      have HXT := Lib.hid ((hx2 (Nat.le_refl _)).fr0 HM.out.fr)
      have HGX := Lib.hid hgx
      have j12 := KeptF.cell q12
      have jv := KeptF.cell qv
      have hkk : (k : Int) < (n.vals.length : Int) := by omega
      clear hgx hx1 hx2 q12 qv
      go_wp2_with fail
      refine wp_region_sink 16 (KeptF wi) (by kernel_rfl) ?_
      have hSb : KeptF wi wi.drew := KeptF.start _
      refine tk 0 hSb ?_
      refine tk 1 hSb ?_
      refine tk 2 hSb ?_
      refine tk 3 hSb ?_
      try simp only [Act.put, sA, sB, sC]
      refine tk 4 hSb ?_ (hy := by intro _ w; have cj12 := j12 _ w; go_simp <;> with_reducible rfl)
      try simp only [Act.put, sA, sB, sC]
      refine tk 5 hSb ?_
      refine tk 6 hSb ?_
      refine tk 7 hSb ?_
      refine tk 8 hSb ?_
      refine tk 9 hSb ?_
      try simp only [Act.put, sA, sB, sC]
      refine tk 10 hSb ?_ (hy := by intro _ w; have cj12 := j12 _ w; go_simp <;> with_reducible rfl)
      try simp only [Act.put, sA, sB, sC]
      refine tk 11 hSb ?_
      refine tk 12 hSb ?_
      try simp only [Act.put, sA, sB, sC]
      refine tk 13 hSb ?_ (hy := by intro _ w; have cjv := jv _ w; go_simp <;> with_reducible rfl)
      try simp only [Act.put, sA, sB, sC]
      refine on1 14 fun K hK => ?_
      go_simp
      refine (cloneT_any _ x.length _ _ (CSl.of_sl (HXT.out.fr0 hSb.fr)) (HT1.out _) hxl).mono ?_
      rintro e w9 ⟨xa2, xc2, rfl, ho9, hf9⟩
      have hSc := KeptF.next hSb hf9
      refine hK.out _ _ hSc ?_
      clear hK K
      try simp only [Act.put, sA, sB, sC]
      refine tk 15 hSc ?_
      try simp only [Act.put, sA, sB, sC]
      have fz := World.ownsRow.frozenAt ((KeptF.fr hSc).own HM.out.vals.own fun _ _ h => h) k
      have HN := Lib.hid (HM.out.next HGX.out (KeptF.fr hSc) ho9)
      refine wpAnyS_last (i := 16) rfl (by kernel_rfl) (by decide) (by kernel_rfl) (by rfl) fun K hK => ?_
      go_simp
      refine hK.out _ _ ?_
      clear hK K hSb hSc fz j12 jv ho9 hf9
      go_wp2_with fail
      go_roundw
      case rel => exact ⟨k + 1, _, by omega, by go_num, HN.out⟩
      case measure => simp [intOf]; omega
     ·obtain rfl : k = n.vals.length := by omega
      have hkk : ¬ (n.vals.length : Int) < (n.vals.length : Int) := by omega
      have HD := Lib.hid (HM.out.done HG.out)
      clear hlk hk HM
      go_wp2_with fail
      go_roundw
      case rel => exact ⟨i + 1, cs2, by omega, by go_num, HD.out⟩
      case measure => simp [intOf]; omega
  ·obtain rfl : i = L.length := by omega
   have hii : ¬ (L.length : Int) < (L.length : Int) := by omega
   have HR := Lib.hid HI.out.code
   have HF := Lib.hid HI.out.fr
   clear hlt hi HI
   go_wp2_with fail
   go_ret
   exact ⟨_, _, rfl, HR.out, HF.out⟩
end Go.Proofs.YtgpekgnhbccnoaaGreat
