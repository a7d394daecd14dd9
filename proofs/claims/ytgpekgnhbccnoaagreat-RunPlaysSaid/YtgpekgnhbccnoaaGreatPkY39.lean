/-
 Walks of value, Go of the document's state.
 No condition but sizes.
 Walk of the document's Next: what the next one is.
 No condition but sizes.
 Walk of Go of the document's state.
 No condition but sizes.
-/
import Derived.Test.YtgpekgnhbccnoaaGreatPkY38
import Derived.Test.YtgpekgnhbccnoaaGreatPkY17
import Derived.Test.YtgpekgnhbccnoaaGreatPkY23
import Derived.Test.YtgpekgnhbccnoaaGreatPkY1
import Derived.Deep.Cut
import Derived.Deep.CutRange
namespace Go.Proofs.YtgpekgnhbccnoaaGreat
open Go Go.RowKit

/-- The document's state, as it is read. -/
structure DStR (w : World) (q : DStV) : Prop where
 box : Bk w q.sb 56 q.cs
 vars : IntsAt w q.vv q.vars
 out : IntsAt w q.ov q.out
 code : CodeAt w q.lv q.L
theorem DStR.fr0 {w w' : World} {q : DStV} (h : DStR w q) (hf : Fr w w' Nil) : DStR w' q := ⟨h.box.fr hf fun h => h, h.vars.fr0 hf, h.out.fr0 hf, h.code.fr0 hf⟩
theorem Lies.dstR {w0 W : World} {l : List Thing} {q : DStV} (h : Lies w0 W l) (i : Nat) (hi : l[i]? = some (dstT q)) : DStR W q := by
 obtain ⟨a, b, c, d⟩ := h.dst i hi
 exact ⟨a, b.at, c.at, d⟩
set_option maxRecDepth 100000 in
set_option maxHeartbeats 400000 in
theorem dvalue_any (q : DStV) (tv : Value) (t : List TermD) (w : World) (h : DStR w q) (ht : TermsAt w tv t) (htl : t.length ≤ 100000) (hvl : q.vars.length ≤ 1000000) :
  Calls Tryz.prog 46 #[.pointer (some ⟨q.sb, 0, none⟩), tv] w fun e w' => e = .returned (.int .i64 (valP q.vars t)) ∧ Fr w w' Nil := by
 obtain ⟨sb, lv, vv, ov, L, at', vars, out⟩ := q
 simp only at hvl ⊢
 have hv := h.vars
 have hb := h.box.cell 2
 simp only [DStV.cs, List.getElem?_cons_zero, List.getElem?_cons_succ] at hv hb
 obtain ⟨ta, tc, rfl⟩ := ht.shape
 obtain ⟨va, vc, rfl⟩ := hv.shape
 have HT := Lib.hid ht
 have HV := Lib.hid hv
 clear h ht hv
 go_enter Tryz.func46, Tryz.ntmps46
 go_wp2_with fail
 refine (deval_any _ _ t vars _ HT.out HV.out htl hvl).mono ?_
 rintro e w2 ⟨he, hf⟩
 obtain ⟨x, hx⟩ : ∃ x, x = (evalP vars t).1 := ⟨_, rfl⟩
 obtain ⟨y, hy⟩ : ∃ y, y = (evalP vars t).2 := ⟨_, rfl⟩
 rw [← hx, ← hy] at he
 have HX : Hid (valP vars t = x) := by rw [hx]; exact Lib.hid rfl
 have HF := Lib.hid hf
 subst he
 clear hf hx hy
 go_wp2_with fail
 go_ret
 exact ⟨by rw [HX.out]; rfl, HF.out⟩
end Go.Proofs.YtgpekgnhbccnoaaGreat
namespace Go.Proofs.YtgpekgnhbccnoaaGreat
open Go Go.RowKit
attribute [local go_sem ↓] Go.wp_at_zero Go.wp_at_succ

/-- Sizes. -/
structure DStF (q : DStV) (TB : List Int) (nv : Nat) : Prop where
 few : FewC q.L
 len : q.vars.length = nv
 le : nv ≤ 100000
 at' : q.at' < q.L.length
 ok : COk TB nv q.L
set_option maxRecDepth 100000 in
set_option maxHeartbeats 8000000 in
theorem dnext_any (q : DStV) (TB : List Int) (nv : Nat) (n : InstrD) (w : World) (h : DStR w q) (hf : DStF q TB nv) (hn : q.L[q.at']? = some n) :
  Calls Tryz.prog 16 #[.pointer (some ⟨q.sb, 0, none⟩)] w fun e w' => e = .returned (nextP n q.vars).val ∧ Fr w w' Nil := by
 have hiok := hf.ok.all _ _ hn
 have hnf := hf.few.2 n (List.mem_of_getElem? hn)
 have hvl := hf.len
 have hnvl := hf.le
 have hLl := hf.few.1
 have hat := hf.at'
 obtain ⟨sb, lv, vv, ov, L, at', vars, out⟩ := q
 simp only at hn hiok hvl hLl hat hnf ⊢
 have HR1 : Hid (∀ w', Fr w w' Nil → DStR w' ⟨sb, lv, vv, ov, L, at', vars, out⟩) := fun w' hf => h.fr0 hf
 obtain ⟨w1, hw1⟩ : ∃ w1, w1 = w.alloc (.cells wantZ 52) := ⟨_, rfl⟩
 have HF1 : Hid (Fr w w1 Nil) := by rw [hw1]; exact Lib.hid ((Fr.refl w Nil).alloc _)
 have HB2 : Hid (Bk w1 w.heap.size 52 wantZ.toList) := by rw [hw1]; exact Lib.hid (Bk.new w _ _)
 have HR := Lib.hid (h.fr0 HF1.out)
 have HW1 := Lib.hid hw1
 obtain ⟨b, off, cap, hlv, hlc⟩ := HR.out.code.form (by show 0 < L.length; omega)
 simp only at hlv
 subst hlv
 obtain ⟨ka, kc, va, vc, hkt, hvt, p0, p1, p2, p3, p4, p5, p6, p7, p8, p9, p10, p11, p12⟩ := (hlc at' n hn).cell
 have HKT := Lib.hid hkt
 have b0 := HR.out.box.cell 0
 have b2 := HR.out.box.cell 1
 simp only [DStV.cs, List.getElem?_cons_zero, List.getElem?_cons_succ] at b0 b2
 have k0 := KeptF.cell b0
 have k2 := KeptF.cell b2
 have j0 := KeptF.cell p0
 have j1 := KeptF.cell p1
 have j2 := KeptF.cell p2
 have j3 := KeptF.cell p3
 have j4 := KeptF.cell p4
 have j5 := KeptF.cell p5
 have j6 := KeptF.cell p6
 have j7 := KeptF.cell p7
 have j8 := KeptF.cell p8
 have j9 := KeptF.cell p9
 have j10 := KeptF.cell p10
 have j11 := KeptF.cell p11
 have j12 := KeptF.cell p12
 have HIOK := Lib.hid hiok
 have HNF := Lib.hid hnf
 clear h hf hn hiok hw1 hlc hkt hvt hnf b0 b2 p0 p1 p2 p3 p4 p5 p6 p7 p8 p9 p10 p11 p12
 obtain ⟨op, node, mode, tab, row, col, var, dst, eq, fro, upto, key, vals⟩ := n
 simp only at HKT j0 j1 j2 j3 j4 j5 j6 j7 j8 j9 j10 j11 j12
 go_enter Tryz.func16, Tryz.ntmps16
 go_wp2_with fail
 rw [← HW1.out]
 refine wp_region_sink 11 (KeptF w1) (by kernel_rfl) ?_
 have hSa : KeptF w1 w1.drew := KeptF.start _
 refine tk 0 hSa ?_
 refine tk 1 hSa ?_
 refine tk 2 hSa ?_
 try simp only [Act.put, sA, sB, sC]
 refine tk 3 hSa ?_ (hy := by intro _ w; have ck0 := k0 _ w; go_simp <;> with_reducible rfl)
 try simp only [Act.put, sA, sB, sC]
 refine tk 4 hSa ?_
 refine tk 5 hSa ?_
 refine tk 6 hSa ?_
 try simp only [Act.put, sA, sB, sC]
 refine tk 7 hSa ?_ (hy := by intro _ w; have ck2 := k2 _ w; go_simp <;> with_reducible rfl)
 try simp only [Act.put, sA, sB, sC]
 refine tk 8 hSa ?_
 try simp only [Act.put, sA, sB, sC]
 refine tk 9 hSa ?_ (hy := by intro _ w; have cj0 := j0 _ w; have cj1 := j1 _ w; have cj2 := j2 _ w; have cj3 := j3 _ w; have cj4 := j4 _ w; have cj5 := j5 _ w; have cj6 := j6 _ w; have cj7 := j7 _ w; have cj8 := j8 _ w; have cj9 := j9 _ w; have cj10 := j10 _ w; have cj11 := j11 _ w; have cj12 := j12 _ w; go_simp <;> with_reducible rfl)
 try simp only [Act.put, sA, sB, sC]
 refine on1 10 fun K hK => ?_
 go_simp
 refine hK.out _ _ (KeptF.next hSa ((Fr.refl _ Nil).alloc _)) ?_
 clear hK K
 try simp only [Act.put, sA, sB, sC]
 refine wpAnyS_last (i := 11) rfl (by kernel_rfl) (by decide) (by kernel_rfl) (by rfl) fun K hK => ?_
 go_simp
 refine hK.out _ _ ?_
 clear hK K
 obtain ⟨w2, hw2⟩ : ∃ w2, w2 = (w1.alloc (.cells #[.int .u8 op, .int .i64 node, .int .u8 mode, .int .i64 tab, .bool row, .int .i64 col, .int .i64 var, .int .i64 dst, .bool eq, .int .i64 fro, .int .i64 upto, .slice ka key.length kc, .slice va vals.length vc] 97)).drew := ⟨_, rfl⟩
 have HF2 : Hid (Fr w1 w2 Nil) := by rw [hw2]; exact Lib.hid ((Fr.refl w1 Nil).alloc _).drew
 have HBN : Hid (Bk w2 w1.heap.size 97 #[.int .u8 op, .int .i64 node, .int .u8 mode, .int .i64 tab, .bool row, .int .i64 col, .int .i64 var, .int .i64 dst, .bool eq, .int .i64 fro, .int .i64 upto, .slice ka key.length kc, .slice va vals.length vc].toList) := by rw [hw2]; exact Lib.hid (Bk.new w1 _ _).drew
 rw [← hw2]
 clear hw2 hSa j0 j1 j2 j3 j4 j5 j6 j7 j8 j9 j10 j11 j12 k0 k2
 have HKT3 := Lib.hid (HKT.out.fr0 HF2.out)
 have HR3 := Lib.hid (HR.out.fr0 HF2.out)
 go_upto_region 2 with (fail)
 go_cut [4] from 16 to 22 (fun v4 wx => ∃ b5, v4 = .pointer (some ⟨b5, 0, none⟩) ∧ Bk wx b5 47 [.int .i64 tab, .bool true, .int .i64 (valP vars key)] ∧ Fr w2 wx Nil)
 case first =>
  have k3 := KeptF.cell (w0 := w2) (show w2.cell? ⟨w1.heap.size, 3, none⟩ = some _ from HBN.out.cell 3)
  have k11 := KeptF.cell (w0 := w2) (show w2.cell? ⟨w1.heap.size, 11, none⟩ = some _ from HBN.out.cell 11)
  refine wp_region_sink 8 (KeptF w2) (by kernel_rfl) ?_
  have hSb : KeptF w2 w2.drew := KeptF.start _
  refine tk 0 hSb ?_
  try simp only [Act.put, sA, sB, sC]
  refine tk 1 hSb ?_ (hy := by intro _ w; have ck3 := k3 _ w; go_simp <;> with_reducible rfl)
  try simp only [Act.put, sA, sB, sC]
  refine tk 2 hSb ?_
  refine tk 3 hSb ?_
  try simp only [Act.put, sA, sB, sC]
  refine tk 4 hSb ?_ (hy := by intro _ w; have ck11 := k11 _ w; go_simp <;> with_reducible rfl)
  try simp only [Act.put, sA, sB, sC]
  refine wpAnyS_two (i := 5) (j := 7) rfl rfl (by kernel_rfl) (by decide) (by decide) (by rfl) (by rfl) (fun K hK => ?_) (fun K hK => ?_)
  ·go_simp
   refine (dvalue_any _ _ key _ (HR3.out.fr0 (KeptF.fr hSb)) (HKT3.out.fr0 (KeptF.fr hSb)) HNF.out.1 (by show vars.length ≤ _; omega)).mono ?_
   rintro e w6 ⟨rfl, hf6⟩
   have hSc := KeptF.next hSb hf6
   refine hK.out _ _ hSc ?_
   clear hK K
   refine tk 6 hSc ?_
   try simp only [Act.put, sA, sB, sC]
   refine on1 7 fun K hK => ?_
   go_simp
   have hSd := KeptF.next hSc ((Fr.refl _ Nil).alloc (.cells #[.int .i64 0, .bool false, .int .i64 0] 47))
   refine hK.out _ _ hSd ?_
   clear hK K
   refine wpAnyS_last (i := 8) rfl (by kernel_rfl) (by decide) (by kernel_rfl) (by rfl) fun K hK => ?_
   go_simp
   refine hK.out _ _ ?_
   have HF := Lib.hid ((KeptF.fr hSc).alloc (.cells #[.int .i64 tab, .bool true, .int .i64 (valP vars key)] 47))
   clear hK K hSb hSc hSd k3 k11 hf6
   go_wp2_with fail
   go_meet
   case rel => exact ⟨_, rfl, Bk.new _ _ _, HF.out⟩
  ·go_simp
   have hSc := KeptF.next hSb ((Fr.refl _ Nil).alloc (.cells #[.int .i64 0, .bool false, .int .i64 0] 47))
   have hb5 : Bk (w2.drew.alloc (.cells #[.int .i64 0, .bool false, .int .i64 0] 47)) w2.heap.size 47 [.int .i64 0, .bool false, .int .i64 0] := Bk.new w2.drew _ _
   refine hK.out _ _ hSc ?_
   clear hK K
   refine on1 5 fun K hK => ?_
   go_simp
   refine (dvalue_any _ _ key _ (HR3.out.fr0 (KeptF.fr hSc)) (HKT3.out.fr0 (KeptF.fr hSc)) HNF.out.1 (by show vars.length ≤ _; omega)).mono ?_
   rintro e w6 ⟨rfl, hf6⟩
   have hSd := KeptF.next hSc hf6
   refine hK.out _ _ hSd ?_
   clear hK K
   refine tk 6 hSd ?_
   try simp only [Act.put, sA, sB, sC]
   have hb6 := hb5.fr hf6 fun h => h
   have s0 := hb6.cell 0
   have s1 := hb6.cell 1
   have s2 := hb6.cell 2
   have sf := hb6.free
   simp only [List.getElem?_cons_zero, List.getElem?_cons_succ] at s0 s1 s2
   refine wpAnyS_last (i := 8) rfl (by kernel_rfl) (by decide) (by kernel_rfl) (by rfl) fun K hK => ?_
   go_simp
   refine hK.out _ _ ?_
   clear hK K
   refine set3_world hb6 ?_
   intro w7 hb7 hf7
   have HF : Hid (Fr w2 w7 Nil) := Lib.hid ((KeptF.fr hSb).trans (((Fr.refl _ Nil).alloc _).trans0 hf6 |>.of_nil |>.trans hf7 fun j hj h => h) fun j hj h => by have : j = w2.heap.size := h; omega)
   have HB7 := Lib.hid hb7
   clear hSb hSc hSd k3 k11 hf6 hb5 hb6 s0 s1 s2 sf hf7 hb7
   go_wp2_with fail
   go_meet
   case rel => exact ⟨_, rfl, HB7.out, HF.out⟩
 case rest =>
  obtain ⟨b5, rfl, hb5, hf5⟩ := hcut
  have HB5 := Lib.hid hb5
  have HF5 := Lib.hid hf5
  have hl5 := hb5.lt
  clear hb5 hf5 HKT3 HR3
  have HBN5 := Lib.hid (HBN.out.fr HF5.out fun h => h)
  have HB25 := Lib.hid (HB2.out.fr (HF2.out.trans0 HF5.out) fun h => h)
  have HFA := Lib.hid (HF1.out.trans0 (HF2.out.trans0 HF5.out))
  have h1 := HIOK.out.lo
  have h2 := HIOK.out.hi
  simp only at h1 h2
  have hb5n : b5 < wc.heap.size := hl5
  by_cases e1 : op = 1
  ·subst e1
   cases row
   ·have n0 := HBN5.out.cell 0
    have na0 := fun o => (HBN5.out.alloc o).cell 0
    have n2 := HBN5.out.cell 2
    have na2 := fun o => (HBN5.out.alloc o).cell 2
    have n3 := HBN5.out.cell 3
    have na3 := fun o => (HBN5.out.alloc o).cell 3
    have n4 := HBN5.out.cell 4
    have na4 := fun o => (HBN5.out.alloc o).cell 4
    have y0 := HB5.out.cell 0
    have ya0 := fun o => (HB5.out.alloc o).cell 0
    have y1 := HB5.out.cell 1
    have ya1 := fun o => (HB5.out.alloc o).cell 1
    have y2 := HB5.out.cell 2
    have ya2 := fun o => (HB5.out.alloc o).cell 2
    have s0 := HB25.out.cell 0
    have sa0 := fun o => (HB25.out.alloc o).cell 0
    have s1 := HB25.out.cell 1
    have sa1 := fun o => (HB25.out.alloc o).cell 1
    have s2 := HB25.out.cell 2
    have sa2 := fun o => (HB25.out.alloc o).cell 2
    have s3 := HB25.out.cell 3
    have sa3 := fun o => (HB25.out.alloc o).cell 3
    have s4 := HB25.out.cell 4
    have sa4 := fun o => (HB25.out.alloc o).cell 4
    have s5 := HB25.out.cell 5
    have sa5 := fun o => (HB25.out.alloc o).cell 5
    have s6 := HB25.out.cell 6
    have sa6 := fun o => (HB25.out.alloc o).cell 6
    have sf := HB25.out.free
    have sfa := fun o => (HB25.out.alloc o).free
    simp only [List.getElem?_cons_zero, List.getElem?_cons_succ] at n0 na0 n2 na2 n3 na3 n4 na4 y0 ya0 y1 ya1 y2 ya2 s0 sa0 s1 sa1 s2 sa2 s3 sa3 s4 sa4 s5 sa5 s6 sa6
    go_wp2_with fail
    refine set7_world (HB25.out.alloc _) ?_
    intro w9 hb9 hf9
    have t0 := hb9.cell 0
    have t1 := hb9.cell 1
    have t2 := hb9.cell 2
    have t3 := hb9.cell 3
    have t4 := hb9.cell 4
    have t5 := hb9.cell 5
    have t6 := hb9.cell 6
    simp only [List.getElem?_cons_zero, List.getElem?_cons_succ] at t0 t1 t2 t3 t4 t5 t6
    have HF9 : Hid (Fr w w9 Nil) := Lib.hid (((HFA.out.alloc _).of_nil.trans hf9 fun j hj h => h).mono fun j hj h => by have : j = w.heap.size := h; omega)
    clear hb9 hf9 n0 na0 n2 na2 n3 na3 n4 na4 y0 ya0 y1 ya1 y2 ya2 s0 sa0 s1 sa1 s2 sa2 s3 sa3 s4 sa4 s5 sa5 s6 sa6 sf sfa
    go_wp2_with fail
    exact bodyPost_ret (v := (nextP ⟨1, node, mode, tab, false, col, var, dst, eq, fro, upto, key, vals⟩ vars).val) (by simp [results, Tryz.results16, go_sem, t0, t1, t2, t3, t4, t5, t6, nextP]; try rfl) rfl ⟨rfl, HF9.out⟩
   ·have n0 := HBN5.out.cell 0
    have na0 := fun o => (HBN5.out.alloc o).cell 0
    have n2 := HBN5.out.cell 2
    have na2 := fun o => (HBN5.out.alloc o).cell 2
    have n3 := HBN5.out.cell 3
    have na3 := fun o => (HBN5.out.alloc o).cell 3
    have n4 := HBN5.out.cell 4
    have na4 := fun o => (HBN5.out.alloc o).cell 4
    have y0 := HB5.out.cell 0
    have ya0 := fun o => (HB5.out.alloc o).cell 0
    have y1 := HB5.out.cell 1
    have ya1 := fun o => (HB5.out.alloc o).cell 1
    have y2 := HB5.out.cell 2
    have ya2 := fun o => (HB5.out.alloc o).cell 2
    have s0 := HB25.out.cell 0
    have sa0 := fun o => (HB25.out.alloc o).cell 0
    have s1 := HB25.out.cell 1
    have sa1 := fun o => (HB25.out.alloc o).cell 1
    have s2 := HB25.out.cell 2
    have sa2 := fun o => (HB25.out.alloc o).cell 2
    have s3 := HB25.out.cell 3
    have sa3 := fun o => (HB25.out.alloc o).cell 3
    have s4 := HB25.out.cell 4
    have sa4 := fun o => (HB25.out.alloc o).cell 4
    have s5 := HB25.out.cell 5
    have sa5 := fun o => (HB25.out.alloc o).cell 5
    have s6 := HB25.out.cell 6
    have sa6 := fun o => (HB25.out.alloc o).cell 6
    have sf := HB25.out.free
    have sfa := fun o => (HB25.out.alloc o).free
    simp only [List.getElem?_cons_zero, List.getElem?_cons_succ] at n0 na0 n2 na2 n3 na3 n4 na4 y0 ya0 y1 ya1 y2 ya2 s0 sa0 s1 sa1 s2 sa2 s3 sa3 s4 sa4 s5 sa5 s6 sa6
    go_wp2_with fail
    refine set7_world (HB25.out.alloc _) ?_
    intro w9 hb9 hf9
    have t0 := hb9.cell 0
    have t1 := hb9.cell 1
    have t2 := hb9.cell 2
    have t3 := hb9.cell 3
    have t4 := hb9.cell 4
    have t5 := hb9.cell 5
    have t6 := hb9.cell 6
    simp only [List.getElem?_cons_zero, List.getElem?_cons_succ] at t0 t1 t2 t3 t4 t5 t6
    have HF9 : Hid (Fr w w9 Nil) := Lib.hid (((HFA.out.alloc _).of_nil.trans hf9 fun j hj h => h).mono fun j hj h => by have : j = w.heap.size := h; omega)
    clear hb9 hf9 n0 na0 n2 na2 n3 na3 n4 na4 y0 ya0 y1 ya1 y2 ya2 s0 sa0 s1 sa1 s2 sa2 s3 sa3 s4 sa4 s5 sa5 s6 sa6 sf sfa
    go_wp2_with fail
    exact bodyPost_ret (v := (nextP ⟨1, node, mode, tab, true, col, var, dst, eq, fro, upto, key, vals⟩ vars).val) (by simp [results, Tryz.results16, go_sem, t0, t1, t2, t3, t4, t5, t6, nextP]; try rfl) rfl ⟨rfl, HF9.out⟩
  by_cases e2 : op = 2
  ·subst e2
   cases row
   ·have n0 := HBN5.out.cell 0
    have na0 := fun o => (HBN5.out.alloc o).cell 0
    have n2 := HBN5.out.cell 2
    have na2 := fun o => (HBN5.out.alloc o).cell 2
    have n3 := HBN5.out.cell 3
    have na3 := fun o => (HBN5.out.alloc o).cell 3
    have n4 := HBN5.out.cell 4
    have na4 := fun o => (HBN5.out.alloc o).cell 4
    have y0 := HB5.out.cell 0
    have ya0 := fun o => (HB5.out.alloc o).cell 0
    have y1 := HB5.out.cell 1
    have ya1 := fun o => (HB5.out.alloc o).cell 1
    have y2 := HB5.out.cell 2
    have ya2 := fun o => (HB5.out.alloc o).cell 2
    have s0 := HB25.out.cell 0
    have sa0 := fun o => (HB25.out.alloc o).cell 0
    have s1 := HB25.out.cell 1
    have sa1 := fun o => (HB25.out.alloc o).cell 1
    have s2 := HB25.out.cell 2
    have sa2 := fun o => (HB25.out.alloc o).cell 2
    have s3 := HB25.out.cell 3
    have sa3 := fun o => (HB25.out.alloc o).cell 3
    have s4 := HB25.out.cell 4
    have sa4 := fun o => (HB25.out.alloc o).cell 4
    have s5 := HB25.out.cell 5
    have sa5 := fun o => (HB25.out.alloc o).cell 5
    have s6 := HB25.out.cell 6
    have sa6 := fun o => (HB25.out.alloc o).cell 6
    have sf := HB25.out.free
    have sfa := fun o => (HB25.out.alloc o).free
    simp only [List.getElem?_cons_zero, List.getElem?_cons_succ] at n0 na0 n2 na2 n3 na3 n4 na4 y0 ya0 y1 ya1 y2 ya2 s0 sa0 s1 sa1 s2 sa2 s3 sa3 s4 sa4 s5 sa5 s6 sa6
    go_wp2_with fail
    refine set7_world (HB25.out.alloc _) ?_
    intro w9 hb9 hf9
    have t0 := hb9.cell 0
    have t1 := hb9.cell 1
    have t2 := hb9.cell 2
    have t3 := hb9.cell 3
    have t4 := hb9.cell 4
    have t5 := hb9.cell 5
    have t6 := hb9.cell 6
    simp only [List.getElem?_cons_zero, List.getElem?_cons_succ] at t0 t1 t2 t3 t4 t5 t6
    have HF9 : Hid (Fr w w9 Nil) := Lib.hid (((HFA.out.alloc _).of_nil.trans hf9 fun j hj h => h).mono fun j hj h => by have : j = w.heap.size := h; omega)
    clear hb9 hf9 n0 na0 n2 na2 n3 na3 n4 na4 y0 ya0 y1 ya1 y2 ya2 s0 sa0 s1 sa1 s2 sa2 s3 sa3 s4 sa4 s5 sa5 s6 sa6 sf sfa
    go_wp2_with fail
    exact bodyPost_ret (v := (nextP ⟨2, node, mode, tab, false, col, var, dst, eq, fro, upto, key, vals⟩ vars).val) (by simp [results, Tryz.results16, go_sem, t0, t1, t2, t3, t4, t5, t6, nextP]; try rfl) rfl ⟨rfl, HF9.out⟩
   ·have n0 := HBN5.out.cell 0
    have na0 := fun o => (HBN5.out.alloc o).cell 0
    have n2 := HBN5.out.cell 2
    have na2 := fun o => (HBN5.out.alloc o).cell 2
    have n3 := HBN5.out.cell 3
    have na3 := fun o => (HBN5.out.alloc o).cell 3
    have n4 := HBN5.out.cell 4
    have na4 := fun o => (HBN5.out.alloc o).cell 4
    have y0 := HB5.out.cell 0
    have ya0 := fun o => (HB5.out.alloc o).cell 0
    have y1 := HB5.out.cell 1
    have ya1 := fun o => (HB5.out.alloc o).cell 1
    have y2 := HB5.out.cell 2
    have ya2 := fun o => (HB5.out.alloc o).cell 2
    have s0 := HB25.out.cell 0
    have sa0 := fun o => (HB25.out.alloc o).cell 0
    have s1 := HB25.out.cell 1
    have sa1 := fun o => (HB25.out.alloc o).cell 1
    have s2 := HB25.out.cell 2
    have sa2 := fun o => (HB25.out.alloc o).cell 2
    have s3 := HB25.out.cell 3
    have sa3 := fun o => (HB25.out.alloc o).cell 3
    have s4 := HB25.out.cell 4
    have sa4 := fun o => (HB25.out.alloc o).cell 4
    have s5 := HB25.out.cell 5
    have sa5 := fun o => (HB25.out.alloc o).cell 5
    have s6 := HB25.out.cell 6
    have sa6 := fun o => (HB25.out.alloc o).cell 6
    have sf := HB25.out.free
    have sfa := fun o => (HB25.out.alloc o).free
    simp only [List.getElem?_cons_zero, List.getElem?_cons_succ] at n0 na0 n2 na2 n3 na3 n4 na4 y0 ya0 y1 ya1 y2 ya2 s0 sa0 s1 sa1 s2 sa2 s3 sa3 s4 sa4 s5 sa5 s6 sa6
    go_wp2_with fail
    refine set7_world (HB25.out.alloc _) ?_
    intro w9 hb9 hf9
    have t0 := hb9.cell 0
    have t1 := hb9.cell 1
    have t2 := hb9.cell 2
    have t3 := hb9.cell 3
    have t4 := hb9.cell 4
    have t5 := hb9.cell 5
    have t6 := hb9.cell 6
    simp only [List.getElem?_cons_zero, List.getElem?_cons_succ] at t0 t1 t2 t3 t4 t5 t6
    have HF9 : Hid (Fr w w9 Nil) := Lib.hid (((HFA.out.alloc _).of_nil.trans hf9 fun j hj h => h).mono fun j hj h => by have : j = w.heap.size := h; omega)
    clear hb9 hf9 n0 na0 n2 na2 n3 na3 n4 na4 y0 ya0 y1 ya1 y2 ya2 s0 sa0 s1 sa1 s2 sa2 s3 sa3 s4 sa4 s5 sa5 s6 sa6 sf sfa
    go_wp2_with fail
    exact bodyPost_ret (v := (nextP ⟨2, node, mode, tab, true, col, var, dst, eq, fro, upto, key, vals⟩ vars).val) (by simp [results, Tryz.results16, go_sem, t0, t1, t2, t3, t4, t5, t6, nextP]; try rfl) rfl ⟨rfl, HF9.out⟩
  by_cases e3 : op = 3
  ·subst e3
   have n0 := HBN5.out.cell 0
   have n2 := HBN5.out.cell 2
   have n3 := HBN5.out.cell 3
   have n4 := HBN5.out.cell 4
   have y0 := HB5.out.cell 0
   have y1 := HB5.out.cell 1
   have y2 := HB5.out.cell 2
   have s0 := HB25.out.cell 0
   have s1 := HB25.out.cell 1
   have s2 := HB25.out.cell 2
   have s3 := HB25.out.cell 3
   have s4 := HB25.out.cell 4
   have s5 := HB25.out.cell 5
   have s6 := HB25.out.cell 6
   have sf := HB25.out.free
   simp only [List.getElem?_cons_zero, List.getElem?_cons_succ] at n0 n2 n3 n4 y0 y1 y2 s0 s1 s2 s3 s4 s5 s6
   go_wp2_with fail
   refine set7_world HB25.out ?_
   intro w9 hb9 hf9
   have t0 := hb9.cell 0
   have t1 := hb9.cell 1
   have t2 := hb9.cell 2
   have t3 := hb9.cell 3
   have t4 := hb9.cell 4
   have t5 := hb9.cell 5
   have t6 := hb9.cell 6
   simp only [List.getElem?_cons_zero, List.getElem?_cons_succ] at t0 t1 t2 t3 t4 t5 t6
   have HF9 : Hid (Fr w w9 Nil) := Lib.hid (((HFA.out).of_nil.trans hf9 fun j hj h => h).mono fun j hj h => by have : j = w.heap.size := h; omega)
   clear hb9 hf9 n0 n2 n3 n4 y0 y1 y2 s0 s1 s2 s3 s4 s5 s6 sf
   go_wp2_with fail
   exact bodyPost_ret (v := (nextP ⟨3, node, mode, tab, row, col, var, dst, eq, fro, upto, key, vals⟩ vars).val) (by simp [results, Tryz.results16, go_sem, t0, t1, t2, t3, t4, t5, t6, nextP]; try rfl) rfl ⟨rfl, HF9.out⟩
  by_cases e4 : op = 4
  ·subst e4
   have n0 := HBN5.out.cell 0
   have n2 := HBN5.out.cell 2
   have n3 := HBN5.out.cell 3
   have n4 := HBN5.out.cell 4
   have y0 := HB5.out.cell 0
   have y1 := HB5.out.cell 1
   have y2 := HB5.out.cell 2
   have s0 := HB25.out.cell 0
   have s1 := HB25.out.cell 1
   have s2 := HB25.out.cell 2
   have s3 := HB25.out.cell 3
   have s4 := HB25.out.cell 4
   have s5 := HB25.out.cell 5
   have s6 := HB25.out.cell 6
   have sf := HB25.out.free
   simp only [List.getElem?_cons_zero, List.getElem?_cons_succ] at n0 n2 n3 n4 y0 y1 y2 s0 s1 s2 s3 s4 s5 s6
   go_wp2_with fail
   refine set7_world HB25.out ?_
   intro w9 hb9 hf9
   have t0 := hb9.cell 0
   have t1 := hb9.cell 1
   have t2 := hb9.cell 2
   have t3 := hb9.cell 3
   have t4 := hb9.cell 4
   have t5 := hb9.cell 5
   have t6 := hb9.cell 6
   simp only [List.getElem?_cons_zero, List.getElem?_cons_succ] at t0 t1 t2 t3 t4 t5 t6
   have HF9 : Hid (Fr w w9 Nil) := Lib.hid (((HFA.out).of_nil.trans hf9 fun j hj h => h).mono fun j hj h => by have : j = w.heap.size := h; omega)
   clear hb9 hf9 n0 n2 n3 n4 y0 y1 y2 s0 s1 s2 s3 s4 s5 s6 sf
   go_wp2_with fail
   exact bodyPost_ret (v := (nextP ⟨4, node, mode, tab, row, col, var, dst, eq, fro, upto, key, vals⟩ vars).val) (by simp [results, Tryz.results16, go_sem, t0, t1, t2, t3, t4, t5, t6, nextP]; try rfl) rfl ⟨rfl, HF9.out⟩
  by_cases e5 : op = 5
  ·subst e5
   have n0 := HBN5.out.cell 0
   have n2 := HBN5.out.cell 2
   have n3 := HBN5.out.cell 3
   have n4 := HBN5.out.cell 4
   have y0 := HB5.out.cell 0
   have y1 := HB5.out.cell 1
   have y2 := HB5.out.cell 2
   have s0 := HB25.out.cell 0
   have s1 := HB25.out.cell 1
   have s2 := HB25.out.cell 2
   have s3 := HB25.out.cell 3
   have s4 := HB25.out.cell 4
   have s5 := HB25.out.cell 5
   have s6 := HB25.out.cell 6
   have sf := HB25.out.free
   simp only [List.getElem?_cons_zero, List.getElem?_cons_succ] at n0 n2 n3 n4 y0 y1 y2 s0 s1 s2 s3 s4 s5 s6
   go_wp2_with fail
   refine set7_world HB25.out ?_
   intro w9 hb9 hf9
   have t0 := hb9.cell 0
   have t1 := hb9.cell 1
   have t2 := hb9.cell 2
   have t3 := hb9.cell 3
   have t4 := hb9.cell 4
   have t5 := hb9.cell 5
   have t6 := hb9.cell 6
   simp only [List.getElem?_cons_zero, List.getElem?_cons_succ] at t0 t1 t2 t3 t4 t5 t6
   have HF9 : Hid (Fr w w9 Nil) := Lib.hid (((HFA.out).of_nil.trans hf9 fun j hj h => h).mono fun j hj h => by have : j = w.heap.size := h; omega)
   clear hb9 hf9 n0 n2 n3 n4 y0 y1 y2 s0 s1 s2 s3 s4 s5 s6 sf
   go_wp2_with fail
   exact bodyPost_ret (v := (nextP ⟨5, node, mode, tab, row, col, var, dst, eq, fro, upto, key, vals⟩ vars).val) (by simp [results, Tryz.results16, go_sem, t0, t1, t2, t3, t4, t5, t6, nextP]; try rfl) rfl ⟨rfl, HF9.out⟩
  by_cases e6 : op = 6
  ·subst e6
   have n0 := HBN5.out.cell 0
   have n2 := HBN5.out.cell 2
   have n3 := HBN5.out.cell 3
   have n4 := HBN5.out.cell 4
   have y0 := HB5.out.cell 0
   have y1 := HB5.out.cell 1
   have y2 := HB5.out.cell 2
   have s0 := HB25.out.cell 0
   have s1 := HB25.out.cell 1
   have s2 := HB25.out.cell 2
   have s3 := HB25.out.cell 3
   have s4 := HB25.out.cell 4
   have s5 := HB25.out.cell 5
   have s6 := HB25.out.cell 6
   have sf := HB25.out.free
   simp only [List.getElem?_cons_zero, List.getElem?_cons_succ] at n0 n2 n3 n4 y0 y1 y2 s0 s1 s2 s3 s4 s5 s6
   go_wp2_with fail
   refine set7_world HB25.out ?_
   intro w9 hb9 hf9
   have t0 := hb9.cell 0
   have t1 := hb9.cell 1
   have t2 := hb9.cell 2
   have t3 := hb9.cell 3
   have t4 := hb9.cell 4
   have t5 := hb9.cell 5
   have t6 := hb9.cell 6
   simp only [List.getElem?_cons_zero, List.getElem?_cons_succ] at t0 t1 t2 t3 t4 t5 t6
   have HF9 : Hid (Fr w w9 Nil) := Lib.hid (((HFA.out).of_nil.trans hf9 fun j hj h => h).mono fun j hj h => by have : j = w.heap.size := h; omega)
   clear hb9 hf9 n0 n2 n3 n4 y0 y1 y2 s0 s1 s2 s3 s4 s5 s6 sf
   go_wp2_with fail
   exact bodyPost_ret (v := (nextP ⟨6, node, mode, tab, row, col, var, dst, eq, fro, upto, key, vals⟩ vars).val) (by simp [results, Tryz.results16, go_sem, t0, t1, t2, t3, t4, t5, t6, nextP]; try rfl) rfl ⟨rfl, HF9.out⟩
  by_cases e7 : op = 7
  ·subst e7
   have n0 := HBN5.out.cell 0
   have n2 := HBN5.out.cell 2
   have n3 := HBN5.out.cell 3
   have n4 := HBN5.out.cell 4
   have y0 := HB5.out.cell 0
   have y1 := HB5.out.cell 1
   have y2 := HB5.out.cell 2
   have s0 := HB25.out.cell 0
   have s1 := HB25.out.cell 1
   have s2 := HB25.out.cell 2
   have s3 := HB25.out.cell 3
   have s4 := HB25.out.cell 4
   have s5 := HB25.out.cell 5
   have s6 := HB25.out.cell 6
   have sf := HB25.out.free
   simp only [List.getElem?_cons_zero, List.getElem?_cons_succ] at n0 n2 n3 n4 y0 y1 y2 s0 s1 s2 s3 s4 s5 s6
   go_wp2_with fail
   refine set7_world HB25.out ?_
   intro w9 hb9 hf9
   have t0 := hb9.cell 0
   have t1 := hb9.cell 1
   have t2 := hb9.cell 2
   have t3 := hb9.cell 3
   have t4 := hb9.cell 4
   have t5 := hb9.cell 5
   have t6 := hb9.cell 6
   simp only [List.getElem?_cons_zero, List.getElem?_cons_succ] at t0 t1 t2 t3 t4 t5 t6
   have HF9 : Hid (Fr w w9 Nil) := Lib.hid (((HFA.out).of_nil.trans hf9 fun j hj h => h).mono fun j hj h => by have : j = w.heap.size := h; omega)
   clear hb9 hf9 n0 n2 n3 n4 y0 y1 y2 s0 s1 s2 s3 s4 s5 s6 sf
   go_wp2_with fail
   exact bodyPost_ret (v := (nextP ⟨7, node, mode, tab, row, col, var, dst, eq, fro, upto, key, vals⟩ vars).val) (by simp [results, Tryz.results16, go_sem, t0, t1, t2, t3, t4, t5, t6, nextP]; try rfl) rfl ⟨rfl, HF9.out⟩
  by_cases e14 : op = 14
  ·subst e14
   have n0 := HBN5.out.cell 0
   have n2 := HBN5.out.cell 2
   have n3 := HBN5.out.cell 3
   have n4 := HBN5.out.cell 4
   have y0 := HB5.out.cell 0
   have y1 := HB5.out.cell 1
   have y2 := HB5.out.cell 2
   have s0 := HB25.out.cell 0
   have s1 := HB25.out.cell 1
   have s2 := HB25.out.cell 2
   have s3 := HB25.out.cell 3
   have s4 := HB25.out.cell 4
   have s5 := HB25.out.cell 5
   have s6 := HB25.out.cell 6
   have sf := HB25.out.free
   simp only [List.getElem?_cons_zero, List.getElem?_cons_succ] at n0 n2 n3 n4 y0 y1 y2 s0 s1 s2 s3 s4 s5 s6
   go_wp2_with fail
   refine set7_world HB25.out ?_
   intro w9 hb9 hf9
   have t0 := hb9.cell 0
   have t1 := hb9.cell 1
   have t2 := hb9.cell 2
   have t3 := hb9.cell 3
   have t4 := hb9.cell 4
   have t5 := hb9.cell 5
   have t6 := hb9.cell 6
   simp only [List.getElem?_cons_zero, List.getElem?_cons_succ] at t0 t1 t2 t3 t4 t5 t6
   have HF9 : Hid (Fr w w9 Nil) := Lib.hid (((HFA.out).of_nil.trans hf9 fun j hj h => h).mono fun j hj h => by have : j = w.heap.size := h; omega)
   clear hb9 hf9 n0 n2 n3 n4 y0 y1 y2 s0 s1 s2 s3 s4 s5 s6 sf
   go_wp2_with fail
   exact bodyPost_ret (v := (nextP ⟨14, node, mode, tab, row, col, var, dst, eq, fro, upto, key, vals⟩ vars).val) (by simp [results, Tryz.results16, go_sem, t0, t1, t2, t3, t4, t5, t6, nextP]; try rfl) rfl ⟨rfl, HF9.out⟩
  by_cases e15 : op = 15
  ·subst e15
   have n0 := HBN5.out.cell 0
   have n2 := HBN5.out.cell 2
   have n3 := HBN5.out.cell 3
   have n4 := HBN5.out.cell 4
   have y0 := HB5.out.cell 0
   have y1 := HB5.out.cell 1
   have y2 := HB5.out.cell 2
   have s0 := HB25.out.cell 0
   have s1 := HB25.out.cell 1
   have s2 := HB25.out.cell 2
   have s3 := HB25.out.cell 3
   have s4 := HB25.out.cell 4
   have s5 := HB25.out.cell 5
   have s6 := HB25.out.cell 6
   have sf := HB25.out.free
   simp only [List.getElem?_cons_zero, List.getElem?_cons_succ] at n0 n2 n3 n4 y0 y1 y2 s0 s1 s2 s3 s4 s5 s6
   go_wp2_with fail
   refine set7_world HB25.out ?_
   intro w9 hb9 hf9
   have t0 := hb9.cell 0
   have t1 := hb9.cell 1
   have t2 := hb9.cell 2
   have t3 := hb9.cell 3
   have t4 := hb9.cell 4
   have t5 := hb9.cell 5
   have t6 := hb9.cell 6
   simp only [List.getElem?_cons_zero, List.getElem?_cons_succ] at t0 t1 t2 t3 t4 t5 t6
   have HF9 : Hid (Fr w w9 Nil) := Lib.hid (((HFA.out).of_nil.trans hf9 fun j hj h => h).mono fun j hj h => by have : j = w.heap.size := h; omega)
   clear hb9 hf9 n0 n2 n3 n4 y0 y1 y2 s0 s1 s2 s3 s4 s5 s6 sf
   go_wp2_with fail
   exact bodyPost_ret (v := (nextP ⟨15, node, mode, tab, row, col, var, dst, eq, fro, upto, key, vals⟩ vars).val) (by simp [results, Tryz.results16, go_sem, t0, t1, t2, t3, t4, t5, t6, nextP]; try rfl) rfl ⟨rfl, HF9.out⟩
  by_cases e16 : op = 16
  ·subst e16
   have n0 := HBN5.out.cell 0
   have n2 := HBN5.out.cell 2
   have n3 := HBN5.out.cell 3
   have n4 := HBN5.out.cell 4
   have y0 := HB5.out.cell 0
   have y1 := HB5.out.cell 1
   have y2 := HB5.out.cell 2
   have s0 := HB25.out.cell 0
   have s1 := HB25.out.cell 1
   have s2 := HB25.out.cell 2
   have s3 := HB25.out.cell 3
   have s4 := HB25.out.cell 4
   have s5 := HB25.out.cell 5
   have s6 := HB25.out.cell 6
   have sf := HB25.out.free
   simp only [List.getElem?_cons_zero, List.getElem?_cons_succ] at n0 n2 n3 n4 y0 y1 y2 s0 s1 s2 s3 s4 s5 s6
   go_wp2_with fail
   refine set7_world HB25.out ?_
   intro w9 hb9 hf9
   have t0 := hb9.cell 0
   have t1 := hb9.cell 1
   have t2 := hb9.cell 2
   have t3 := hb9.cell 3
   have t4 := hb9.cell 4
   have t5 := hb9.cell 5
   have t6 := hb9.cell 6
   simp only [List.getElem?_cons_zero, List.getElem?_cons_succ] at t0 t1 t2 t3 t4 t5 t6
   have HF9 : Hid (Fr w w9 Nil) := Lib.hid (((HFA.out).of_nil.trans hf9 fun j hj h => h).mono fun j hj h => by have : j = w.heap.size := h; omega)
   clear hb9 hf9 n0 n2 n3 n4 y0 y1 y2 s0 s1 s2 s3 s4 s5 s6 sf
   go_wp2_with fail
   exact bodyPost_ret (v := (nextP ⟨16, node, mode, tab, row, col, var, dst, eq, fro, upto, key, vals⟩ vars).val) (by simp [results, Tryz.results16, go_sem, t0, t1, t2, t3, t4, t5, t6, nextP]; try rfl) rfl ⟨rfl, HF9.out⟩
  have HNX : Hid (nextP ⟨op, node, mode, tab, row, col, var, dst, eq, fro, upto, key, vals⟩ vars = ⟨1, 0, false, 0, 0, false, false⟩) := by
   have : nextP ⟨op, node, mode, tab, row, col, var, dst, eq, fro, upto, key, vals⟩ vars = ⟨1, 0, false, 0, 0, false, false⟩ := by unfold nextP; simp [e1, e2, e3, e4, e5, e6, e7, e14, e15, e16]
   exact Lib.hid this
  have f1 : (op == 1) = false := by rw [beq_eq_false_iff_ne]; exact e1
  have f2 : (op == 2) = false := by rw [beq_eq_false_iff_ne]; exact e2
  have f3 : (op == 3) = false := by rw [beq_eq_false_iff_ne]; exact e3
  have f4 : (op == 4) = false := by rw [beq_eq_false_iff_ne]; exact e4
  have f5 : (op == 5) = false := by rw [beq_eq_false_iff_ne]; exact e5
  have f6 : (op == 6) = false := by rw [beq_eq_false_iff_ne]; exact e6
  have f7 : (op == 7) = false := by rw [beq_eq_false_iff_ne]; exact e7
  have f14 : (op == 14) = false := by rw [beq_eq_false_iff_ne]; exact e14
  have f15 : (op == 15) = false := by rw [beq_eq_false_iff_ne]; exact e15
  have f16 : (op == 16) = false := by rw [beq_eq_false_iff_ne]; exact e16
  clear e1 e2 e3 e4 e5 e6 e7 e14 e15 e16
  have n0 := HBN5.out.cell 0
  have n2 := HBN5.out.cell 2
  have n3 := HBN5.out.cell 3
  have n4 := HBN5.out.cell 4
  have y0 := HB5.out.cell 0
  have y1 := HB5.out.cell 1
  have y2 := HB5.out.cell 2
  have s0 := HB25.out.cell 0
  have s1 := HB25.out.cell 1
  have s2 := HB25.out.cell 2
  have s3 := HB25.out.cell 3
  have s4 := HB25.out.cell 4
  have s5 := HB25.out.cell 5
  have s6 := HB25.out.cell 6
  have sf := HB25.out.free
  simp only [List.getElem?_cons_zero, List.getElem?_cons_succ] at n0 n2 n3 n4 y0 y1 y2 s0 s1 s2 s3 s4 s5 s6
  go_wp2_with fail
  refine set7_world HB25.out ?_
  intro w9 hb9 hf9
  have t0 := hb9.cell 0
  have t1 := hb9.cell 1
  have t2 := hb9.cell 2
  have t3 := hb9.cell 3
  have t4 := hb9.cell 4
  have t5 := hb9.cell 5
  have t6 := hb9.cell 6
  simp only [List.getElem?_cons_zero, List.getElem?_cons_succ] at t0 t1 t2 t3 t4 t5 t6
  have HF9 : Hid (Fr w w9 Nil) := Lib.hid (((HFA.out).of_nil.trans hf9 fun j hj h => h).mono fun j hj h => by have : j = w.heap.size := h; omega)
  clear hb9 hf9 n0 n2 n3 n4 y0 y1 y2 s0 s1 s2 s3 s4 s5 s6 sf
  go_wp2_with fail
  exact bodyPost_ret (v := WantD.val ⟨1, 0, false, 0, 0, false, false⟩) (by simp [results, Tryz.results16, go_sem, t0, t1, t2, t3, t4, t5, t6]; try rfl) rfl ⟨by rw [HNX.out], HF9.out⟩
end Go.Proofs.YtgpekgnhbccnoaaGreat
namespace Go.Proofs.YtgpekgnhbccnoaaGreat
open Go Go.RowKit

theorem Tryz.dfieldKind (k t y m : Int) (r a b : Bool) (w : World) : Sem.run Tryz.prog (Instr.field 52 (.agg #[.int .u8 k, .int .i64 t, .bool r, .int .i64 y, .int .u8 m, .bool a, .bool b]) 0) w = .ok (.int .u8 k) w := by kernel_rfl
attribute [local go_sem] Tryz.dfieldKind
set_option maxRecDepth 100000 in
set_option maxHeartbeats 1000000 in
theorem dgo_any {w0 W : World} {l : List Thing} {q : DStV} {TB : List Int} {nv : Nat} {n : InstrD} (h : Lies w0 W l) (i : Nat) (hi : l[i]? = some (dstT q)) (hf : DStF q TB nv) (hn : q.L[q.at']? = some n) :
  Calls Tryz.prog 26 #[.pointer (some ⟨q.sb, 0, none⟩)] W fun e W' => e = .returned (.bool (goes (nextP n q.vars).kind)) ∧ Lies w0 W' (l.set i (dstT (if goes (nextP n q.vars).kind = true then { q with at' := q.at' + 1 } else q))) := by
 have hk := nextP_kinds (n := n) q.vars
 have hat := hf.at'
 have hLl := hf.few.1
 have HN := Lib.hid (dnext_any q TB nv n W (h.dstR i hi) hf hn)
 have HL := Lib.hid h
 have HI := Lib.hid hi
 have hself : l.set i (dstT q) = l := by
  have hlt := (List.getElem?_eq_some_iff.1 hi).1
  rw [← (List.getElem?_eq_some_iff.1 hi).2]
  exact List.set_getElem_self hlt
 have HS := Lib.hid hself
 clear hf hn h hi hself
 generalize nextP n q.vars = x at HN hk ⊢
 obtain ⟨kind, tab, row, key, mode, touched, wrote⟩ := x
 simp only at hk ⊢
 rcases hk with rfl | rfl | rfl | rfl | rfl | rfl
 ·go_enter Tryz.func26, Tryz.ntmps26
  go_wp2_with fail
  refine HN.out.mono ?_
  rintro e w2 ⟨he, hf2⟩
  simp only [WantD.val] at he
  subst he
  have HL2 := Lib.hid (HL.out.fr0 hf2)
  clear hf2
  go_wp2_with fail
  go_ret
  exact ⟨rfl, by rw [HS.out]; exact HL2.out⟩
 ·go_enter Tryz.func26, Tryz.ntmps26
  go_wp2_with fail
  refine HN.out.mono ?_
  rintro e w2 ⟨he, hf2⟩
  simp only [WantD.val] at he
  subst he
  have HL2 := Lib.hid (HL.out.fr0 hf2)
  have b2 := ((HL2.out.dstR i HI.out).box).cell 1
  have bf := ((HL2.out.dstR i HI.out).box).free 1
  simp only [DStV.cs, List.getElem?_cons_zero, List.getElem?_cons_succ] at b2
  clear hf2
  go_wp2_with fail
  go_ret
  exact ⟨rfl, HL2.out.dstAt i HI.out (q.at' + 1) _ (by omega)⟩
 ·go_enter Tryz.func26, Tryz.ntmps26
  go_wp2_with fail
  refine HN.out.mono ?_
  rintro e w2 ⟨he, hf2⟩
  simp only [WantD.val] at he
  subst he
  have HL2 := Lib.hid (HL.out.fr0 hf2)
  have b2 := ((HL2.out.dstR i HI.out).box).cell 1
  have bf := ((HL2.out.dstR i HI.out).box).free 1
  simp only [DStV.cs, List.getElem?_cons_zero, List.getElem?_cons_succ] at b2
  clear hf2
  go_wp2_with fail
  go_ret
  exact ⟨rfl, HL2.out.dstAt i HI.out (q.at' + 1) _ (by omega)⟩
 ·go_enter Tryz.func26, Tryz.ntmps26
  go_wp2_with fail
  refine HN.out.mono ?_
  rintro e w2 ⟨he, hf2⟩
  simp only [WantD.val] at he
  subst he
  have HL2 := Lib.hid (HL.out.fr0 hf2)
  have b2 := ((HL2.out.dstR i HI.out).box).cell 1
  have bf := ((HL2.out.dstR i HI.out).box).free 1
  simp only [DStV.cs, List.getElem?_cons_zero, List.getElem?_cons_succ] at b2
  clear hf2
  go_wp2_with fail
  go_ret
  exact ⟨rfl, HL2.out.dstAt i HI.out (q.at' + 1) _ (by omega)⟩
 ·go_enter Tryz.func26, Tryz.ntmps26
  go_wp2_with fail
  refine HN.out.mono ?_
  rintro e w2 ⟨he, hf2⟩
  simp only [WantD.val] at he
  subst he
  have HL2 := Lib.hid (HL.out.fr0 hf2)
  clear hf2
  go_wp2_with fail
  go_ret
  exact ⟨rfl, by rw [HS.out]; exact HL2.out⟩
 ·go_enter Tryz.func26, Tryz.ntmps26
  go_wp2_with fail
  refine HN.out.mono ?_
  rintro e w2 ⟨he, hf2⟩
  simp only [WantD.val] at he
  subst he
  have HL2 := Lib.hid (HL.out.fr0 hf2)
  clear hf2
  go_wp2_with fail
  go_ret
  exact ⟨rfl, by rw [HS.out]; exact HL2.out⟩
end Go.Proofs.YtgpekgnhbccnoaaGreat
