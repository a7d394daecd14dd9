/-
 Walk of the document's moves: where an instruction goes on.
 No condition but sizes.
 Walks of the document's Good, vals, has, part.
 No condition but sizes.
 Walk of the document's one.
 No condition but sizes.
 Walk of the document's one.
 No condition but sizes.
 Walk of the document's Right.
 No condition but sizes.
-/
import Derived.Test.YtgpekgnhbccnoaaGreatPkY39
import Derived.Test.YtgpekgnhbccnoaaGreatPkY27
import Derived.Test.YtgpekgnhbccnoaaGreatPkY38
import Derived.Test.YtgpekgnhbccnoaaGreatPkY16
import Derived.Test.YtgpekgnhbccnoaaGreatPkY28
namespace Go.Proofs.YtgpekgnhbccnoaaGreat
open Go Go.RowKit
attribute [local go_sem ↓] Go.wp_at_zero Go.wp_at_succ

theorem Lies.dbox {w0 W : World} {l : List Thing} {q : DStV} (h : Lies w0 W l) (i : Nat) (hi : l[i]? = some (dstT q)) (m : Nat) (hm : m < q.vars.length) : ∃ vb vcap, q.vv = .slice (some ⟨vb, 0, none⟩) q.vars.length vcap ∧ W.cell? ⟨q.sb, 2, none⟩ = some (.slice (some ⟨vb, 0, none⟩) q.vars.length vcap) ∧
  W.cell? ⟨vb, m, none⟩ = some (.int .i64 (q.vars.getD m 0)) ∧ W.frozen? ⟨vb, m, none⟩ = false ∧ ∀ x, Lies w0 (W.setCell ⟨vb, m, none⟩ (.int .i64 x)) (l.set i (dstT { q with vars := q.vars.set m x })) := by
 obtain ⟨h1, h2, _⟩ := h.dst i hi
 obtain ⟨vb, vcap, hv, _⟩ := h2.form (by omega)
 have h3 := h2
 rw [hv] at h3
 refine ⟨vb, vcap, hv, ?_, h3.cell rfl m hm, h3.free rfl m, fun x => h.dstVar i hi hv rfl m x⟩
 rw [← hv]
 exact h1.cell 2
def nextAt (o : Option Int) (a : Nat) : Int := match o with
 | some t => t
 | none => (a : Int) + 1
section
variable {w0 W : World} {l : List Thing} {q : DStV}
def DMovRet (w0 : World) (l : List Thing) (i : Nat) (q : DStV) (n : InstrD) (e : Ending) (W' : World) : Prop :=
 e = .returned (.int .i64 (nextAt (onP n q.vars).2 q.at')) ∧ Lies w0 W' (l.set i (dstT { q with vars := (onP n q.vars).1 }))
theorem DMovRet.same {w0 W' : World} {l : List Thing} {i : Nat} {q : DStV} {n : InstrD} {e : Ending} {o : Option Int} (ho : onP n q.vars = (q.vars, o)) (hi : l[i]? = some (dstT q)) (he : e = .returned (.int .i64 (nextAt o q.at'))) (h : Lies w0 W' l) : DMovRet w0 l i q n e W' := by
 have hself : l.set i (dstT q) = l := by
  have hlt := (List.getElem?_eq_some_iff.1 hi).1
  rw [← (List.getElem?_eq_some_iff.1 hi).2]
  exact List.set_getElem_self hlt
 unfold DMovRet
 rw [ho]
 exact ⟨he, by rw [hself]; exact h⟩
theorem DMovRet.turned {w0 W' : World} {l : List Thing} {i : Nat} {q : DStV} {n : InstrD} {e : Ending} {o : Option Int} {vs : List Int} (ho : onP n q.vars = (vs, o)) (he : e = .returned (.int .i64 (nextAt o q.at'))) (h : Lies w0 W' (l.set i (dstT { q with vars := vs }))) : DMovRet w0 l i q n e W' := by
 unfold DMovRet
 rw [ho]
 exact ⟨he, h⟩
theorem Lies.dAt1 {w0 W : World} {l : List Thing} {q : DStV} (h : Lies w0 W l) (i : Nat) (hi : l[i]? = some (dstT q)) : W.cell? ⟨q.sb, 1, none⟩ = some (.int .i64 (q.at' : Int)) := (h.dst i hi).1.cell 1
theorem Lies.dAt1' {w0 W : World} {l : List Thing} {q q' : DStV} (i : Nat) (hi : l[i]? = some (dstT q)) (h : Lies w0 W (l.set i (dstT q'))) (hs : q'.sb = q.sb) (ha : q'.at' = q.at') : W.cell? ⟨q.sb, 1, none⟩ = some (.int .i64 (q.at' : Int)) := by
 have := h.dAt1 i (List.getElem?_set_self (List.getElem?_eq_some_iff.1 hi).1)
 rwa [hs, ha] at this
set_option maxRecDepth 100000 in
set_option maxHeartbeats 8000000 in
theorem dmoves_any (h : Lies w0 W l) (i : Nat) (hi : l[i]? = some (dstT q)) (n : InstrD) (kv vv : Value) (hks : ∃ a c, kv = .slice a n.key.length c) (hvs : ∃ a c, vv = .slice a n.vals.length c) (hvt : 10 ≤ n.op → ValsAt W vv n.vals) (hfv : FewT n.vals) (hvl : q.vars.length ≤ 100000) (hat : q.at' < 100000) {TB : List Int} {size : Nat} (hok : IOk TB q.vars.length size n) :
  Calls Tryz.prog 63 #[.pointer (some ⟨q.sb, 0, none⟩), n.val kv vv] W (DMovRet w0 l i q n) := by
 have hv13 := fun h => hok.var h
 have h2v := hok.two
 obtain ⟨op, node, mode, tab, row, col, var, dst, eq, fro, upto, key, vals⟩ := n
 simp only at hks hvs hvt hfv hv13 h2v ⊢
 obtain ⟨ka, kc, rfl⟩ := hks
 obtain ⟨va, vc, rfl⟩ := hvs
 simp only [InstrD.val]
 obtain ⟨w1, hw1⟩ : ∃ w1, w1 = W.alloc (.cells #[.int .u8 op, .int .i64 node, .int .u8 mode, .int .i64 tab, .bool row, .int .i64 col, .int .i64 var, .int .i64 dst, .bool eq, .int .i64 fro, .int .i64 upto, .slice ka key.length kc, .slice va vals.length vc] 97) := ⟨_, rfl⟩
 have HF1 : Hid (Fr W w1 Nil) := by rw [hw1]; exact Lib.hid ((Fr.refl W Nil).alloc _)
 have HB1 : Hid (Bk w1 W.heap.size 97 #[.int .u8 op, .int .i64 node, .int .u8 mode, .int .i64 tab, .bool row, .int .i64 col, .int .i64 var, .int .i64 dst, .bool eq, .int .i64 fro, .int .i64 upto, .slice ka key.length kc, .slice va vals.length vc].toList) := by rw [hw1]; exact Lib.hid (Bk.new W _ _)
 have HL1 := Lib.hid (h.fr0 HF1.out)
 have HVT : Hid (10 ≤ op → ValsAt w1 (.slice va vals.length vc) vals) := Lib.hid fun h => (hvt h).fr0 HF1.out
 have HI := Lib.hid hi
 have HFV := Lib.hid hfv
 have HW1 := Lib.hid hw1
 have HVB : Hid (∀ k, q.vv.ownBlock = some k → k < W.heap.size) := Lib.hid (h.dst i hi).2.1.lt
 have HV13 := Lib.hid hv13
 have H2V := Lib.hid h2v
 have c0 : w1.cell? ⟨W.heap.size, 0, none⟩ = some _ := HB1.out.cell 0
 have b1 := HL1.out.dAt1 i HI.out
 clear h hvt hi hfv hw1 hok hv13 h2v
 by_cases h10 : op = 10
 ·subst h10
  have c7 : w1.cell? ⟨W.heap.size, 7, none⟩ = some _ := HB1.out.cell 7
  go_enter Tryz.func63, Tryz.ntmps63
  go_wp2_with fail
  rw [← HW1.out]
  go_ret
  exact DMovRet.same (o := some dst) rfl HI.out rfl HL1.out
 by_cases h11 : op = 11
 ·subst h11
  have h2 : vals.length = 2 := H2V.out rfl
  obtain ⟨xb, xoff, xa, xc, rfl, hx0, hxt⟩ := (HVT.out (by decide)).get 0 (by omega)
  obtain ⟨yb, yoff, ya, yc, eyb, hy0, hyt⟩ := (HVT.out (by decide)).get 1 (by omega)
  cases eyb
  have hxl : (vals.getD 0 []).length ≤ 100000 := by
   rw [List.getD_eq_getElem?_getD, List.getElem?_eq_getElem (by omega)]
   exact HFV.out.2 _ (List.getElem_mem (by omega))
  have hyl : (vals.getD 1 []).length ≤ 100000 := by
   rw [List.getD_eq_getElem?_getD, List.getElem?_eq_getElem (by omega)]
   exact HFV.out.2 _ (List.getElem_mem (by omega))
  have HO : Hid (∀ a b, a = valP q.vars (vals.getD 0 []) → b = valP q.vars (vals.getD 1 []) → onP ⟨11, node, mode, tab, row, col, var, dst, eq, fro, upto, key, vals⟩ q.vars = (q.vars, if (eq && !decide (a = b)) || (!eq && decide (b ≤ a)) then some dst else none)) := fun a b ha hb => by rw [ha, hb]; exact rfl
  have HXT := Lib.hid hxt
  have HYT := Lib.hid hyt
  simp only [Nat.add_zero] at hx0
  have kx0 := KeptF.cell hx0
  have ky0 := KeptF.cell hy0
  generalize vals.getD 0 [] = x at *
  generalize vals.getD 1 [] = y at *
  have k12 := KeptF.cell (w0 := w1) (show w1.cell? ⟨W.heap.size, 12, none⟩ = some _ from HB1.out.cell 12)
  have h0v : 0 < vals.length := by omega
  have h2v : (1 : Int) < (vals.length : Int) := by omega
  clear hx0 hxt hy0 hyt h2 b1
  go_enter Tryz.func63, Tryz.ntmps63
  go_wp2_with fail
  rw [← HW1.out]
  clear c0
  refine wp_region_sink 13 (KeptF w1) (by kernel_rfl) ?_
  have hSa : KeptF w1 w1.drew := KeptF.start _
  refine tk 0 hSa ?_
  refine tk 1 hSa ?_
  try simp only [Act.put, sA, sB, sC]
  refine tk 2 hSa ?_ (hy := by intro _ w; have ck12 := k12 _ w; go_simp <;> with_reducible rfl)
  try simp only [Act.put, sA, sB, sC]
  refine tk 3 hSa ?_
  try simp only [Act.put, sA, sB, sC]
  refine tk 4 hSa ?_ (hy := by intro _ w; have ckx0 := kx0 _ w; go_simp <;> with_reducible rfl)
  try simp only [Act.put, sA, sB, sC]
  refine tk 6 hSa ?_
  refine tk 7 hSa ?_
  try simp only [Act.put, sA, sB, sC]
  refine tk 8 hSa ?_ (hy := by intro _ w; have ck12 := k12 _ w; go_simp <;> with_reducible rfl)
  try simp only [Act.put, sA, sB, sC]
  refine tk 9 hSa ?_
  try simp only [Act.put, sA, sB, sC]
  refine tk 10 hSa ?_ (hy := by intro _ w; have cky0 := ky0 _ w; go_simp <;> with_reducible rfl)
  try simp only [Act.put, sA, sB, sC]
  refine on1 5 fun K hK => ?_
  go_simp
  refine (dvalue_any q _ x _ ((HL1.out.fr0 (KeptF.fr hSa)).dstR i HI.out) (HXT.out.fr0 (KeptF.fr hSa)) hxl (by omega)).mono ?_
  rintro e w6 ⟨rfl, hfw6⟩
  have hSb := KeptF.next hSa hfw6
  refine hK.out _ _ hSb ?_
  clear hK K
  try simp only [Act.put, sA, sB, sC]
  refine on1 11 fun K hK => ?_
  go_simp
  refine (dvalue_any q _ y _ ((HL1.out.fr0 (KeptF.fr hSb)).dstR i HI.out) (HYT.out.fr0 (KeptF.fr hSb)) hyl (by omega)).mono ?_
  rintro e w7 ⟨rfl, hfw7⟩
  have hSc := KeptF.next hSb hfw7
  refine hK.out _ _ hSc ?_
  clear hK K
  try simp only [Act.put, sA, sB, sC]
  obtain ⟨a, ha⟩ : ∃ a, a = valP q.vars x := ⟨_, rfl⟩
  obtain ⟨b, hb⟩ : ∃ b, b = valP q.vars y := ⟨_, rfl⟩
  rw [← ha, ← hb]
  have HO2 := Lib.hid (HO.out a b ha hb)
  clear ha hb
  refine tk 12 hSc ?_
  try simp only [Act.put, sA, sB, sC]
  refine wpAnyS_last (i := 13) rfl (by kernel_rfl) (by decide) (by kernel_rfl) (by rfl) fun K hK => ?_
  go_simp
  refine hK.out _ _ ?_
  have HLc := Lib.hid (HL1.out.fr0 (KeptF.fr hSc))
  have d7 : w7.cell? ⟨W.heap.size, 7, none⟩ = some _ := (KeptF.fr hSc).cell (HB1.out.cell 7) fun h => h
  have d8 : w7.cell? ⟨W.heap.size, 8, none⟩ = some _ := (KeptF.fr hSc).cell (HB1.out.cell 8) fun h => h
  have b1 := HLc.out.dAt1 i HI.out
  clear hK K hSa hSb hSc hfw6 hfw7 k12 kx0 ky0
  cases eq
  ·by_cases hab : b ≤ a
   ·have HX : Hid (onP ⟨11, node, mode, tab, row, col, var, dst, false, fro, upto, key, vals⟩ q.vars = (q.vars, some dst)) := by rw [HO2.out]; exact Lib.hid (by simp [hab])
    go_wp2_with fail
    go_ret
    exact DMovRet.same HX.out HI.out rfl HLc.out
   ·have HX : Hid (onP ⟨11, node, mode, tab, row, col, var, dst, false, fro, upto, key, vals⟩ q.vars = (q.vars, none)) := by rw [HO2.out]; exact Lib.hid (by simp [hab])
    go_wp2_with fail
    go_ret
    exact DMovRet.same HX.out HI.out rfl HLc.out
  ·by_cases hab : a = b
   ·have HX : Hid (onP ⟨11, node, mode, tab, row, col, var, dst, true, fro, upto, key, vals⟩ q.vars = (q.vars, none)) := by rw [HO2.out]; exact Lib.hid (by simp [hab])
    have f1 : (a != b) = false := by rw [bne_eq_false_iff_eq]; exact hab
    clear hab
    go_wp2_with fail
    go_ret
    exact DMovRet.same HX.out HI.out rfl HLc.out
   ·have HX : Hid (onP ⟨11, node, mode, tab, row, col, var, dst, true, fro, upto, key, vals⟩ q.vars = (q.vars, some dst)) := by rw [HO2.out]; exact Lib.hid (by simp [hab])
    have f1 : (a != b) = true := by rw [bne_iff_ne]; exact hab
    clear hab
    go_wp2_with fail
    go_ret
    exact DMovRet.same HX.out HI.out rfl HLc.out
 by_cases h12 : op = 12
 ·subst h12
  obtain ⟨m, rfl⟩ : ∃ m : Nat, var = (m : Int) := ⟨var.toNat, by have := HV13.out (by decide); omega⟩
  have hm : m < q.vars.length := by have := HV13.out (by decide); omega
  obtain ⟨vb, vcap, ev, c3, d4, d5, d6⟩ := HL1.out.dbox i HI.out m hm
  have hvne : W.heap.size ≠ vb := fun e => by
   have := HVB.out vb (by rw [ev]; rfl)
   omega
  have k30 := KeptF.cell c3
  have HO : Hid (onP ⟨12, node, mode, tab, row, col, m, dst, eq, fro, upto, key, vals⟩ q.vars = (q.vars.set m fro, if upto < fro then some dst else none)) := Lib.hid rfl
  have k6 := KeptF.cell (w0 := w1) (show w1.cell? ⟨W.heap.size, 6, none⟩ = some _ from HB1.out.cell 6)
  have k9 := KeptF.cell (w0 := w1) (show w1.cell? ⟨W.heap.size, 9, none⟩ = some _ from HB1.out.cell 9)
  clear c3 ev b1
  go_enter Tryz.func63, Tryz.ntmps63
  go_wp2_with fail
  rw [← HW1.out]
  clear c0
  refine wp_region_sink 9 (KeptF w1) (by kernel_rfl) ?_
  have hSa : KeptF w1 w1.drew := KeptF.start _
  refine tk 0 hSa ?_
  refine tk 1 hSa ?_
  refine tk 2 hSa ?_
  try simp only [Act.put, sA, sB, sC]
  refine tk 3 hSa ?_ (hy := by intro _ w; have ck30 := k30 _ w; go_simp <;> with_reducible rfl)
  try simp only [Act.put, sA, sB, sC]
  refine tk 4 hSa ?_
  try simp only [Act.put, sA, sB, sC]
  refine tk 5 hSa ?_ (hy := by intro _ w; have ck6 := k6 _ w; go_simp <;> with_reducible rfl)
  try simp only [Act.put, sA, sB, sC]
  refine tk 6 hSa ?_
  try simp only [Act.put, sA, sB, sC]
  refine tk 7 hSa ?_ (hy := by intro _ w; have ck9 := k9 _ w; go_simp <;> with_reducible rfl)
  try simp only [Act.put, sA, sB, sC]
  refine tk 8 hSa ?_
  try simp only [Act.put, sA, sB, sC]
  refine wpAnyS_last (i := 9) rfl (by kernel_rfl) (by decide) (by kernel_rfl) (by rfl) fun K hK => ?_
  go_simp
  refine hK.out _ _ ?_
  clear hK K d4 d5 hSa k30 k6 k9
  obtain ⟨w2, hw2⟩ : ∃ w2, w2 = (w1.setCell ⟨vb, m, none⟩ (.int .i64 fro)).drew := ⟨_, rfl⟩
  have D6 := Lib.hid ((d6 fro).fr0 ((Fr.refl _ Nil).drew))
  rw [← hw2] at D6 ⊢
  have HB2 : Hid (Bk w2 W.heap.size 97 #[.int .u8 12, .int .i64 node, .int .u8 mode, .int .i64 tab, .bool row, .int .i64 col, .int .i64 m, .int .i64 dst, .bool eq, .int .i64 fro, .int .i64 upto, .slice ka key.length kc, .slice va vals.length vc].toList) := by rw [hw2]; exact Lib.hid (HB1.out.fr (Fr.store w1 vb m (.int .i64 fro)).drew hvne)
  clear hw2 d6
  have z7 : w2.cell? ⟨W.heap.size, 7, none⟩ = some _ := HB2.out.cell 7
  have z9 : w2.cell? ⟨W.heap.size, 9, none⟩ = some _ := HB2.out.cell 9
  have z10 : w2.cell? ⟨W.heap.size, 10, none⟩ = some _ := HB2.out.cell 10
  have b1 := Lies.dAt1' i HI.out D6.out rfl rfl
  by_cases hlt : upto < fro
  ·have HX : Hid (onP ⟨12, node, mode, tab, row, col, m, dst, eq, fro, upto, key, vals⟩ q.vars = (q.vars.set m fro, some dst)) := by rw [HO.out]; exact Lib.hid (by rw [if_pos hlt])
   go_wp2_with fail
   go_ret
   exact DMovRet.turned HX.out rfl D6.out
  ·have HX : Hid (onP ⟨12, node, mode, tab, row, col, m, dst, eq, fro, upto, key, vals⟩ q.vars = (q.vars.set m fro, none)) := by rw [HO.out]; exact Lib.hid (by rw [if_neg hlt])
   go_wp2_with fail
   go_ret
   exact DMovRet.turned HX.out rfl D6.out
 by_cases h13 : op = 13
 ·subst h13
  obtain ⟨m, rfl⟩ : ∃ m : Nat, var = (m : Int) := ⟨var.toNat, by have := HV13.out (by decide); omega⟩
  have hm : m < q.vars.length := by have := HV13.out (by decide); omega
  obtain ⟨vb, vcap, ev, c3, d4, d5, d6⟩ := HL1.out.dbox i HI.out m hm
  have hvne : W.heap.size ≠ vb := fun e => by
   have := HVB.out vb (by rw [ev]; rfl)
   omega
  have k30 := KeptF.cell c3
  obtain ⟨x, hx⟩ : ∃ x, x = q.vars.getD m 0 := ⟨_, rfl⟩
  rw [← hx] at d4
  have HO : Hid (onP ⟨13, node, mode, tab, row, col, m, dst, eq, fro, upto, key, vals⟩ q.vars = if x < upto then (q.vars.set m (wrap64 (x + 1)), some dst) else (q.vars, none)) := by rw [hx]; exact Lib.hid rfl
  have kx := KeptF.cell d4
  clear hx
  have k6 := KeptF.cell (w0 := w1) (show w1.cell? ⟨W.heap.size, 6, none⟩ = some _ from HB1.out.cell 6)
  have k10 := KeptF.cell (w0 := w1) (show w1.cell? ⟨W.heap.size, 10, none⟩ = some _ from HB1.out.cell 10)
  clear c3 ev b1
  go_enter Tryz.func63, Tryz.ntmps63
  go_wp2_with fail
  rw [← HW1.out]
  clear c0
  refine wp_region_sink 10 (KeptF w1) (by kernel_rfl) ?_
  have hSa : KeptF w1 w1.drew := KeptF.start _
  by_cases hlt : x < upto
  ·have d1 : decide (x < upto) = true := decide_eq_true hlt
   have HX : Hid (onP ⟨13, node, mode, tab, row, col, m, dst, eq, fro, upto, key, vals⟩ q.vars = (q.vars.set m (wrap64 (x + 1)), some dst)) := by rw [HO.out]; exact Lib.hid (by rw [if_pos hlt])
   refine tk 0 hSa ?_
   refine tk 1 hSa ?_
   refine tk 2 hSa ?_
   try simp only [Act.put, sA, sB, sC]
   refine tk 3 hSa ?_ (hy := by intro _ w; have ck30 := k30 _ w; go_simp <;> with_reducible rfl)
   try simp only [Act.put, sA, sB, sC]
   refine tk 4 hSa ?_
   try simp only [Act.put, sA, sB, sC]
   refine tk 5 hSa ?_ (hy := by intro _ w; have ck6 := k6 _ w; go_simp <;> with_reducible rfl)
   try simp only [Act.put, sA, sB, sC]
   refine tk 6 hSa ?_
   try simp only [Act.put, sA, sB, sC]
   refine tk 7 hSa ?_ (hy := by intro _ w; have ckx := kx _ w; go_simp <;> with_reducible rfl)
   try simp only [Act.put, sA, sB, sC]
   refine tk 8 hSa ?_
   try simp only [Act.put, sA, sB, sC]
   refine tk 9 hSa ?_ (hy := by intro _ w; have ck10 := k10 _ w; go_simp <;> with_reducible rfl)
   try simp only [Act.put, sA, sB, sC]
   refine wpAnyS_last (i := 10) rfl (by kernel_rfl) (by decide) (by kernel_rfl) (by rfl) fun K hK => ?_
   go_simp
   refine hK.out _ _ ?_
   clear hK K
   have m30 := fun w h => k30 w (Fr.trans0 (KeptF.fr hSa) h)
   have m6 := fun w h => k6 w (Fr.trans0 (KeptF.fr hSa) h)
   have mx := fun w h => kx w (Fr.trans0 (KeptF.fr hSa) h)
   go_wp2_with fail
   refine wp_region_sink 16 (KeptF w1.drew) (by kernel_rfl) ?_
   have hSb : KeptF w1.drew w1.drew.drew := KeptF.start _
   refine tk 0 hSb ?_
   refine tk 1 hSb ?_
   refine tk 2 hSb ?_
   try simp only [Act.put, sA, sB, sC]
   refine tk 3 hSb ?_ (hy := by intro _ w; have cm30 := m30 _ w; go_simp <;> with_reducible rfl)
   try simp only [Act.put, sA, sB, sC]
   refine tk 4 hSb ?_
   try simp only [Act.put, sA, sB, sC]
   refine tk 5 hSb ?_ (hy := by intro _ w; have cm6 := m6 _ w; go_simp <;> with_reducible rfl)
   try simp only [Act.put, sA, sB, sC]
   refine tk 6 hSb ?_
   refine tk 7 hSb ?_
   refine tk 8 hSb ?_
   try simp only [Act.put, sA, sB, sC]
   refine tk 9 hSb ?_ (hy := by intro _ w; have cm30 := m30 _ w; go_simp <;> with_reducible rfl)
   try simp only [Act.put, sA, sB, sC]
   refine tk 10 hSb ?_
   try simp only [Act.put, sA, sB, sC]
   refine tk 11 hSb ?_ (hy := by intro _ w; have cm6 := m6 _ w; go_simp <;> with_reducible rfl)
   try simp only [Act.put, sA, sB, sC]
   refine tk 12 hSb ?_
   try simp only [Act.put, sA, sB, sC]
   refine tk 13 hSb ?_ (hy := by intro _ w; have cmx := mx _ w; go_simp <;> with_reducible rfl)
   try simp only [Act.put, sA, sB, sC]
   refine tk 14 hSb ?_
   refine tk 15 hSb ?_
   try simp only [Act.put, sA, sB, sC]
   refine wpAnyS_last (i := 16) rfl (by kernel_rfl) (by decide) (by kernel_rfl) (by rfl) fun K hK => ?_
   go_simp
   refine hK.out _ _ ?_
   clear hK K d4 d5 hSa hSb k30 k6 k10 kx m30 m6 mx d1
   rw [wrap_is]
   obtain ⟨w2, hw2⟩ : ∃ w2, w2 = (w1.setCell ⟨vb, m, none⟩ (.int .i64 (wrap64 (x + 1)))).drew.drew := ⟨_, rfl⟩
   have D6 := Lib.hid ((d6 (wrap64 (x + 1))).fr0 ((Fr.refl _ Nil).drew.drew))
   have z7 : w2.cell? ⟨W.heap.size, 7, none⟩ = some (.int .i64 dst) := by rw [hw2]; exact (HB1.out.fr (Fr.store w1 vb m (.int .i64 (wrap64 (x + 1)))).drew.drew hvne).cell 7
   rw [← hw2] at D6 ⊢
   clear hw2 d6
   go_wp2_with fail
   go_ret
   exact DMovRet.turned HX.out rfl D6.out
  ·have d1 : decide (x < upto) = false := decide_eq_false hlt
   have HX : Hid (onP ⟨13, node, mode, tab, row, col, m, dst, eq, fro, upto, key, vals⟩ q.vars = (q.vars, none)) := by rw [HO.out]; exact Lib.hid (by rw [if_neg hlt])
   refine tk 0 hSa ?_
   refine tk 1 hSa ?_
   refine tk 2 hSa ?_
   try simp only [Act.put, sA, sB, sC]
   refine tk 3 hSa ?_ (hy := by intro _ w; have ck30 := k30 _ w; go_simp <;> with_reducible rfl)
   try simp only [Act.put, sA, sB, sC]
   refine tk 4 hSa ?_
   try simp only [Act.put, sA, sB, sC]
   refine tk 5 hSa ?_ (hy := by intro _ w; have ck6 := k6 _ w; go_simp <;> with_reducible rfl)
   try simp only [Act.put, sA, sB, sC]
   refine tk 6 hSa ?_
   try simp only [Act.put, sA, sB, sC]
   refine tk 7 hSa ?_ (hy := by intro _ w; have ckx := kx _ w; go_simp <;> with_reducible rfl)
   try simp only [Act.put, sA, sB, sC]
   refine tk 8 hSa ?_
   try simp only [Act.put, sA, sB, sC]
   refine tk 9 hSa ?_ (hy := by intro _ w; have ck10 := k10 _ w; go_simp <;> with_reducible rfl)
   try simp only [Act.put, sA, sB, sC]
   refine wpAnyS_last (i := 10) rfl (by kernel_rfl) (by decide) (by kernel_rfl) (by rfl) fun K hK => ?_
   go_simp
   refine hK.out _ _ ?_
   clear hK K
   have D7 := Lib.hid (HL1.out.fr0 (KeptF.fr hSa))
   have b1 := D7.out.dAt1 i HI.out
   clear d4 d5 d6 hSa k30 k6 k10 kx d1
   go_wp2_with fail
   go_ret
   exact DMovRet.same HX.out HI.out rfl D7.out
 have HO : Hid (onP ⟨op, node, mode, tab, row, col, var, dst, eq, fro, upto, key, vals⟩ q.vars = (q.vars, none)) := by
  have : onP ⟨op, node, mode, tab, row, col, var, dst, eq, fro, upto, key, vals⟩ q.vars = (q.vars, none) := by
   unfold onP
   rw [if_neg h10, if_neg h11, if_neg h12, if_neg h13]
  exact this
 have e10 : (op == 10) = false := by rw [beq_eq_false_iff_ne]; exact h10
 have e11 : (op == 11) = false := by rw [beq_eq_false_iff_ne]; exact h11
 have e12 : (op == 12) = false := by rw [beq_eq_false_iff_ne]; exact h12
 have e13 : (op == 13) = false := by rw [beq_eq_false_iff_ne]; exact h13
 clear h10 h11 h12 h13
 go_enter Tryz.func63, Tryz.ntmps63
 go_upto_region 1 with (fail)
 rw [← HW1.out]
 go_wp2_with fail
 go_ret
 exact DMovRet.same HO.out HI.out rfl HL1.out
end
end Go.Proofs.YtgpekgnhbccnoaaGreat
namespace Go.Proofs.YtgpekgnhbccnoaaGreat
open Go Go.RowKit

set_option maxRecDepth 100000 in
set_option maxHeartbeats 1000000 in
theorem dgood_any (tv : Value) (t : List TermD) (nv : Nat) (w : World) (ht : TermsAt w tv t) (hl : t.length ≤ 100000) (hn : nv ≤ 1000000) :
  Calls Tryz.prog 114 #[tv, .int .i64 nv] w fun e w' => e = .returned (.bool (goodP nv t)) ∧ Fr w w' Nil := by
 obtain ⟨ib, hib, hz0, hz1, hz2⟩ := info_parts (P := Tryz.prog) (e := 2) (z := .int .i64 0) (size := 1) (bytes := 8) (by kernel_rfl)
 obtain ⟨r, hr⟩ : ∃ r, r = goodP nv t := ⟨_, rfl⟩
 rw [← hr]
 have HR := Lib.hid hr
 clear hr
 obtain ⟨a, c, rfl⟩ := ht.shape
 have HT := Lib.hid ht
 have Hb1 : Hid (ib.bytes * nv ≤ 281474976710656) := by
  have : ib.bytes * nv ≤ 281474976710656 := by rw [hz2]; omega
  exact this
 have Hb2 : Hid (nv ≤ maxLen) := by
  have : nv ≤ maxLen := by unfold maxLen; omega
  exact this
 clear ht
 go_enter Tryz.func114, Tryz.ntmps114
 go_wp2_with (at_make; refine wpList_make_full _ rfl _ _ 24 rfl 0 2 ib (.int .i64 0) 1 Tryz.underlying24 hib hz0 hz1 _ _ _ _ nv rfl rfl rfl rfl Hb1.out Hb2.out (Nat.zero_le _) ?_; intro w1 hown hgr; have HO := Lib.hid (own_zeros hown); have HF := Lib.hid ((Fr.refl w Nil).grown hgr (fun k hk => by cases hk)); clear hown hgr)
 refine (deval_any _ _ t (List.replicate nv 0) _ (HT.out.fr0 HF.out) HO.out.at hl (by simpa using hn)).mono ?_
 rintro e w2 ⟨he, hf⟩
 obtain ⟨x, hx⟩ : ∃ x, x = (evalP (List.replicate nv 0) t).1 := ⟨_, rfl⟩
 rw [show (evalP (List.replicate nv 0) t).2 = r from HR.out.symm, ← hx] at he
 have HF2 := Lib.hid (HF.out.trans0 hf)
 subst he
 clear hf hx
 go_wp2_with fail
 go_ret
 exact ⟨rfl, HF2.out⟩
def hasP (s : ByteArray) (c : Nat) : Bool := s.data.toList.any fun x => x.toNat == c
theorem dany_take {l : List UInt8} {k : Nat} {p : UInt8 → Bool} (hk : k < l.length) : (l.take (k + 1)).any p = ((l.take k).any p || p l[k]) := by
 rw [List.take_succ_eq_append_getElem hk, List.any_append]
 simp
theorem dany_sub {l : List UInt8} {k : Nat} {p : UInt8 → Bool} (h : (l.take k).any p = true) : l.any p = true := by
 rw [List.any_eq_true] at h ⊢
 obtain ⟨x, hx, hp⟩ := h
 exact ⟨x, List.mem_of_mem_take hx, hp⟩
set_option maxRecDepth 100000 in
set_option maxHeartbeats 1000000 in
theorem has_anyD (s : ByteArray) (c : Nat) (w : World) (hs : s.size ≤ 1000) :
  Calls Tryz.prog 86 #[.string s, .int .u8 c] w fun e w' => e = .returned (.bool (hasP s c)) ∧ w = w' := by
 obtain ⟨r, hr⟩ : ∃ r, r = hasP s c := ⟨_, rfl⟩
 rw [← hr]
 have HR := Lib.hid hr
 have hsz : s.data.toList.length = s.size := by simp
 have HSZ := Lib.hid hsz
 clear hr hsz
 go_enter Tryz.func86, Tryz.ntmps86
 go_wp2_with fail
 go_loop [5] (fun vi => ∃ k : Nat, k ≤ s.size ∧ vi = .int .i64 k ∧ (s.data.toList.take k).any (fun x => x.toNat == c) = false) (fun vi => s.size - (intOf vi).toNat)
 case atStart => exact ⟨0, by omega, rfl, rfl⟩
 case round =>
  obtain ⟨k, hk, rfl, hany⟩ := hrel
  have HA := Lib.hid hany
  clear hany
  by_cases hlt : k < s.size
  ·have HN := Lib.hid (dany_take (p := fun x => x.toNat == c) (l := s.data.toList) (k := k) (by rw [HSZ.out]; exact hlt))
   have hkk : (k : Int) < (s.size : Int) := by omega
   have hge : s.data.toList[k]'(by rw [HSZ.out]; exact hlt) = s[k] := rfl
   rw [HA.out, Bool.false_or, hge] at HN
   clear hge
   by_cases hc : s[k].toNat = c
   ·have d1 : ((s[k].toNat : Int) == (c : Int)) = true := by rw [beq_iff_eq]; omega
    have HE : Hid (r = true) := Lib.hid (by rw [HR.out]; unfold hasP; exact dany_sub (k := k + 1) (by rw [HN.out, beq_iff_eq]; exact hc))
    clear hc
    go_wp2_with fail
    go_ret
    exact ⟨by rw [HE.out]; rfl, rfl⟩
   ·have d1 : ((s[k].toNat : Int) == (c : Int)) = false := by rw [beq_eq_false_iff_ne]; omega
    have HE : Hid ((s.data.toList.take (k + 1)).any (fun x => x.toNat == c) = false) := Lib.hid (by rw [HN.out, beq_eq_false_iff_ne]; exact hc)
    clear hc
    go_wp2_with fail
    go_round
    case rel => exact ⟨k + 1, by omega, by go_num, HE.out⟩
    case measure => simp [intOf]; omega
  ·obtain rfl : k = s.size := by omega
   have HE : Hid (r = false) := Lib.hid (by rw [HR.out]; unfold hasP; have h9 := HA.out; rwa [List.take_of_length_le (by rw [HSZ.out]; exact Nat.le_refl _)] at h9)
   go_wp2_with fail
   go_ret
   exact ⟨by rw [HE.out]; rfl, rfl⟩
def partB (op : Int) : ByteArray :=
 if op = 1 then ⟨#[109, 116, 107]⟩ else if op = 2 then ⟨#[116, 107]⟩ else if op = 3 then ⟨#[116, 114, 99, 118]⟩ else if op = 4 then ⟨#[116, 114, 99, 49]⟩ else if op = 5 then ⟨#[116, 114, 110]⟩ else if op = 6 then ⟨#[116, 114]⟩ else if op = 7 then ⟨#[116, 99, 118]⟩ else if op = 8 then ⟨#[118, 49]⟩ else if op = 9 then ⟨#[49]⟩ else if op = 10 then ⟨#[111]⟩ else if op = 11 then ⟨#[101, 50, 111]⟩ else if op = 12 then ⟨#[118, 102, 117, 111]⟩ else if op = 13 then ⟨#[118, 117, 111]⟩ else ⟨#[]⟩
theorem part_t {op : Int} (h : 1 ≤ op ∧ op ≤ 16) : hasP (partB op) 116 = decide (op = 1 ∨ op = 2 ∨ op = 3 ∨ op = 4 ∨ op = 5 ∨ op = 6 ∨ op = 7) := by
 obtain ⟨h1, h2⟩ := h
 rcases (show op = 1 ∨ op = 2 ∨ op = 3 ∨ op = 4 ∨ op = 5 ∨ op = 6 ∨ op = 7 ∨ op = 8 ∨ op = 9 ∨ op = 10 ∨ op = 11 ∨ op = 12 ∨ op = 13 ∨ op = 14 ∨ op = 15 ∨ op = 16 by omega) with rfl | rfl | rfl | rfl | rfl | rfl | rfl | rfl | rfl | rfl | rfl | rfl | rfl | rfl | rfl | rfl <;> rfl
theorem part_r {op : Int} (h : 1 ≤ op ∧ op ≤ 16) : hasP (partB op) 114 = decide (op = 3 ∨ op = 4 ∨ op = 5 ∨ op = 6) := by
 obtain ⟨h1, h2⟩ := h
 rcases (show op = 1 ∨ op = 2 ∨ op = 3 ∨ op = 4 ∨ op = 5 ∨ op = 6 ∨ op = 7 ∨ op = 8 ∨ op = 9 ∨ op = 10 ∨ op = 11 ∨ op = 12 ∨ op = 13 ∨ op = 14 ∨ op = 15 ∨ op = 16 by omega) with rfl | rfl | rfl | rfl | rfl | rfl | rfl | rfl | rfl | rfl | rfl | rfl | rfl | rfl | rfl | rfl <;> rfl
theorem part_k {op : Int} (h : 1 ≤ op ∧ op ≤ 16) : hasP (partB op) 107 = decide (op = 1 ∨ op = 2) := by
 obtain ⟨h1, h2⟩ := h
 rcases (show op = 1 ∨ op = 2 ∨ op = 3 ∨ op = 4 ∨ op = 5 ∨ op = 6 ∨ op = 7 ∨ op = 8 ∨ op = 9 ∨ op = 10 ∨ op = 11 ∨ op = 12 ∨ op = 13 ∨ op = 14 ∨ op = 15 ∨ op = 16 by omega) with rfl | rfl | rfl | rfl | rfl | rfl | rfl | rfl | rfl | rfl | rfl | rfl | rfl | rfl | rfl | rfl <;> rfl
theorem part_m {op : Int} (h : 1 ≤ op ∧ op ≤ 16) : hasP (partB op) 109 = decide (op = 1) := by
 obtain ⟨h1, h2⟩ := h
 rcases (show op = 1 ∨ op = 2 ∨ op = 3 ∨ op = 4 ∨ op = 5 ∨ op = 6 ∨ op = 7 ∨ op = 8 ∨ op = 9 ∨ op = 10 ∨ op = 11 ∨ op = 12 ∨ op = 13 ∨ op = 14 ∨ op = 15 ∨ op = 16 by omega) with rfl | rfl | rfl | rfl | rfl | rfl | rfl | rfl | rfl | rfl | rfl | rfl | rfl | rfl | rfl | rfl <;> rfl
theorem part_c {op : Int} (h : 1 ≤ op ∧ op ≤ 16) : hasP (partB op) 99 = decide (op = 3 ∨ op = 4 ∨ op = 7) := by
 obtain ⟨h1, h2⟩ := h
 rcases (show op = 1 ∨ op = 2 ∨ op = 3 ∨ op = 4 ∨ op = 5 ∨ op = 6 ∨ op = 7 ∨ op = 8 ∨ op = 9 ∨ op = 10 ∨ op = 11 ∨ op = 12 ∨ op = 13 ∨ op = 14 ∨ op = 15 ∨ op = 16 by omega) with rfl | rfl | rfl | rfl | rfl | rfl | rfl | rfl | rfl | rfl | rfl | rfl | rfl | rfl | rfl | rfl <;> rfl
theorem part_v {op : Int} (h : 1 ≤ op ∧ op ≤ 16) : hasP (partB op) 118 = decide (op = 3 ∨ op = 7 ∨ op = 8 ∨ op = 12 ∨ op = 13) := by
 obtain ⟨h1, h2⟩ := h
 rcases (show op = 1 ∨ op = 2 ∨ op = 3 ∨ op = 4 ∨ op = 5 ∨ op = 6 ∨ op = 7 ∨ op = 8 ∨ op = 9 ∨ op = 10 ∨ op = 11 ∨ op = 12 ∨ op = 13 ∨ op = 14 ∨ op = 15 ∨ op = 16 by omega) with rfl | rfl | rfl | rfl | rfl | rfl | rfl | rfl | rfl | rfl | rfl | rfl | rfl | rfl | rfl | rfl <;> rfl
theorem part_o {op : Int} (h : 1 ≤ op ∧ op ≤ 16) : hasP (partB op) 111 = decide (op = 10 ∨ op = 11 ∨ op = 12 ∨ op = 13) := by
 obtain ⟨h1, h2⟩ := h
 rcases (show op = 1 ∨ op = 2 ∨ op = 3 ∨ op = 4 ∨ op = 5 ∨ op = 6 ∨ op = 7 ∨ op = 8 ∨ op = 9 ∨ op = 10 ∨ op = 11 ∨ op = 12 ∨ op = 13 ∨ op = 14 ∨ op = 15 ∨ op = 16 by omega) with rfl | rfl | rfl | rfl | rfl | rfl | rfl | rfl | rfl | rfl | rfl | rfl | rfl | rfl | rfl | rfl <;> rfl
theorem part_e {op : Int} (h : 1 ≤ op ∧ op ≤ 16) : hasP (partB op) 101 = decide (op = 11) := by
 obtain ⟨h1, h2⟩ := h
 rcases (show op = 1 ∨ op = 2 ∨ op = 3 ∨ op = 4 ∨ op = 5 ∨ op = 6 ∨ op = 7 ∨ op = 8 ∨ op = 9 ∨ op = 10 ∨ op = 11 ∨ op = 12 ∨ op = 13 ∨ op = 14 ∨ op = 15 ∨ op = 16 by omega) with rfl | rfl | rfl | rfl | rfl | rfl | rfl | rfl | rfl | rfl | rfl | rfl | rfl | rfl | rfl | rfl <;> rfl
theorem part_f {op : Int} (h : 1 ≤ op ∧ op ≤ 16) : hasP (partB op) 102 = decide (op = 12) := by
 obtain ⟨h1, h2⟩ := h
 rcases (show op = 1 ∨ op = 2 ∨ op = 3 ∨ op = 4 ∨ op = 5 ∨ op = 6 ∨ op = 7 ∨ op = 8 ∨ op = 9 ∨ op = 10 ∨ op = 11 ∨ op = 12 ∨ op = 13 ∨ op = 14 ∨ op = 15 ∨ op = 16 by omega) with rfl | rfl | rfl | rfl | rfl | rfl | rfl | rfl | rfl | rfl | rfl | rfl | rfl | rfl | rfl | rfl <;> rfl
theorem part_u {op : Int} (h : 1 ≤ op ∧ op ≤ 16) : hasP (partB op) 117 = decide (op = 12 ∨ op = 13) := by
 obtain ⟨h1, h2⟩ := h
 rcases (show op = 1 ∨ op = 2 ∨ op = 3 ∨ op = 4 ∨ op = 5 ∨ op = 6 ∨ op = 7 ∨ op = 8 ∨ op = 9 ∨ op = 10 ∨ op = 11 ∨ op = 12 ∨ op = 13 ∨ op = 14 ∨ op = 15 ∨ op = 16 by omega) with rfl | rfl | rfl | rfl | rfl | rfl | rfl | rfl | rfl | rfl | rfl | rfl | rfl | rfl | rfl | rfl <;> rfl
theorem part_one {op : Int} (h : 1 ≤ op ∧ op ≤ 16) : hasP (partB op) 49 = decide (op = 4 ∨ op = 8 ∨ op = 9) := by
 obtain ⟨h1, h2⟩ := h
 rcases (show op = 1 ∨ op = 2 ∨ op = 3 ∨ op = 4 ∨ op = 5 ∨ op = 6 ∨ op = 7 ∨ op = 8 ∨ op = 9 ∨ op = 10 ∨ op = 11 ∨ op = 12 ∨ op = 13 ∨ op = 14 ∨ op = 15 ∨ op = 16 by omega) with rfl | rfl | rfl | rfl | rfl | rfl | rfl | rfl | rfl | rfl | rfl | rfl | rfl | rfl | rfl | rfl <;> rfl
theorem part_two {op : Int} (h : 1 ≤ op ∧ op ≤ 16) : hasP (partB op) 50 = decide (op = 11) := by
 obtain ⟨h1, h2⟩ := h
 rcases (show op = 1 ∨ op = 2 ∨ op = 3 ∨ op = 4 ∨ op = 5 ∨ op = 6 ∨ op = 7 ∨ op = 8 ∨ op = 9 ∨ op = 10 ∨ op = 11 ∨ op = 12 ∨ op = 13 ∨ op = 14 ∨ op = 15 ∨ op = 16 by omega) with rfl | rfl | rfl | rfl | rfl | rfl | rfl | rfl | rfl | rfl | rfl | rfl | rfl | rfl | rfl | rfl <;> rfl
theorem part_n {op : Int} (h : 1 ≤ op ∧ op ≤ 16) : hasP (partB op) 110 = decide (op = 5) := by
 obtain ⟨h1, h2⟩ := h
 rcases (show op = 1 ∨ op = 2 ∨ op = 3 ∨ op = 4 ∨ op = 5 ∨ op = 6 ∨ op = 7 ∨ op = 8 ∨ op = 9 ∨ op = 10 ∨ op = 11 ∨ op = 12 ∨ op = 13 ∨ op = 14 ∨ op = 15 ∨ op = 16 by omega) with rfl | rfl | rfl | rfl | rfl | rfl | rfl | rfl | rfl | rfl | rfl | rfl | rfl | rfl | rfl | rfl <;> rfl
theorem partB_len {op : Int} (h : 1 ≤ op ∧ op ≤ 16) : (partB op).size ≤ 1000 := by
 obtain ⟨h1, h2⟩ := h
 rcases (show op = 1 ∨ op = 2 ∨ op = 3 ∨ op = 4 ∨ op = 5 ∨ op = 6 ∨ op = 7 ∨ op = 8 ∨ op = 9 ∨ op = 10 ∨ op = 11 ∨ op = 12 ∨ op = 13 ∨ op = 14 ∨ op = 15 ∨ op = 16 by omega) with rfl | rfl | rfl | rfl | rfl | rfl | rfl | rfl | rfl | rfl | rfl | rfl | rfl | rfl | rfl | rfl
 all_goals decide
set_option maxRecDepth 100000 in
set_option maxHeartbeats 4000000 in
theorem part_any (op : Int) (w : World) (h : 1 ≤ op ∧ op ≤ 16) :
  Calls Tryz.prog 87 #[.int .u8 op] w fun e w' => e = .returned (.string (partB op)) ∧ Fr w w' Nil := by
 obtain ⟨h1, h2⟩ := h
 rcases (show op = 1 ∨ op = 2 ∨ op = 3 ∨ op = 4 ∨ op = 5 ∨ op = 6 ∨ op = 7 ∨ op = 8 ∨ op = 9 ∨ op = 10 ∨ op = 11 ∨ op = 12 ∨ op = 13 ∨ op = 14 ∨ op = 15 ∨ op = 16 by omega) with rfl | rfl | rfl | rfl | rfl | rfl | rfl | rfl | rfl | rfl | rfl | rfl | rfl | rfl | rfl | rfl
 all_goals
  go_enter Tryz.func87, Tryz.ntmps87
  go_wp2_with fail
  go_ret
  exact ⟨rfl, (Fr.refl w Nil).alloc _⟩
/-- What vals answers. -/
def valsB (n : InstrD) (want : Int) (nv : Nat) : Bool := decide ((n.vals.length : Int) = want) && n.vals.all (goodP nv)
theorem all_takeD {l : List (List TermD)} {k : Nat} {p : List TermD → Bool} {t : List TermD} (ht : l[k]? = some t) : (l.take (k + 1)).all p = ((l.take k).all p && p t) := by
 have hk := (List.getElem?_eq_some_iff.1 ht).1
 rw [List.take_succ_eq_append_getElem hk, List.all_append]
 rw [List.getElem?_eq_getElem hk] at ht
 cases ht
 simp
set_option maxRecDepth 100000 in
set_option maxHeartbeats 2000000 in
theorem dvals_any (n : InstrD) (kv vv : Value) (want : Int) (nv : Nat) (w : World) (hkt : TermsAt w kv n.key) (hvt : ValsAt w vv n.vals) (hf : FewT n.vals) (hn : nv ≤ 1000000) :
  Calls Tryz.prog 115 #[n.val kv vv, .int .i64 want, .int .i64 nv] w fun e w' => e = .returned (.bool (valsB n want nv)) ∧ Fr w w' Nil := by
 obtain ⟨r, hr⟩ : ∃ r, r = valsB n want nv := ⟨_, rfl⟩
 rw [← hr]
 have HR := Lib.hid hr
 clear hr
 obtain ⟨op, node, mode, tab, row, col, var, dst, eq, fro, upto, key, vals⟩ := n
 simp only at hkt hvt hf ⊢
 obtain ⟨ka, kc, rfl⟩ := hkt.shape
 obtain ⟨va, vc, rfl⟩ := hvt.shape
 simp only [InstrD.val]
 obtain ⟨w1, hw1⟩ : ∃ w1, w1 = w.alloc (.cells #[.int .u8 op, .int .i64 node, .int .u8 mode, .int .i64 tab, .bool row, .int .i64 col, .int .i64 var, .int .i64 dst, .bool eq, .int .i64 fro, .int .i64 upto, .slice ka key.length kc, .slice va vals.length vc] 97) := ⟨_, rfl⟩
 have HF1 : Hid (Fr w w1 Nil) := by rw [hw1]; exact Lib.hid ((Fr.refl w Nil).alloc _)
 have HB1 : Hid (Bk w1 w.heap.size 97 #[.int .u8 op, .int .i64 node, .int .u8 mode, .int .i64 tab, .bool row, .int .i64 col, .int .i64 var, .int .i64 dst, .bool eq, .int .i64 fro, .int .i64 upto, .slice ka key.length kc, .slice va vals.length vc].toList) := by rw [hw1]; exact Lib.hid (Bk.new w _ _)
 have HVT := Lib.hid (hvt.fr0 HF1.out)
 have HFV := Lib.hid hf
 have hvl := hf.1
 have c12 : (w.alloc (.cells #[.int .u8 op, .int .i64 node, .int .u8 mode, .int .i64 tab, .bool row, .int .i64 col, .int .i64 var, .int .i64 dst, .bool eq, .int .i64 fro, .int .i64 upto, .slice ka key.length kc, .slice va vals.length vc] 97)).cell? ⟨w.heap.size, 12, none⟩ = some (.slice va vals.length vc) := by rw [← hw1]; exact HB1.out.cell 12
 have HW1 := Lib.hid hw1
 clear hkt hvt hf hw1
 by_cases hlen : (vals.length : Int) = want
 ·subst hlen
  go_enter Tryz.func115, Tryz.ntmps115
  go_wp2_with fail
  rw [← HW1.out]
  clear c12
  go_loopw [7] (fun vi wr => ∃ k : Nat, k ≤ vals.length ∧ vi = .int .i64 k ∧ (vals.take k).all (goodP nv) = true ∧ Fr w1 wr Nil) (fun vi _ => vals.length - (intOf vi).toNat)
  case atStart => exact ⟨0, by omega, rfl, rfl, Fr.refl _ _⟩
  case round =>
   obtain ⟨k, hk, rfl, hall, hfr⟩ := hrel
   have HA := Lib.hid hall
   have HFr := Lib.hid hfr
   have c12 := hfr.cell (show w1.cell? ⟨w.heap.size, 12, none⟩ = some (.slice va vals.length vc) from HB1.out.cell 12) fun h => h
   clear hall hfr
   by_cases hlt : k < vals.length
   ·obtain ⟨xb, xoff, xa, xc, rfl, hx0, hxt⟩ := (HVT.out.fr0 HFr.out).get k hlt
    have hget : vals[k]? = some (vals.getD k []) := by rw [List.getD_eq_getElem?_getD, List.getElem?_eq_getElem hlt]; rfl
    have HAT := Lib.hid (all_takeD (p := goodP nv) hget)
    have hxl : (vals.getD k []).length ≤ 100000 := HFV.out.2 _ (List.mem_of_getElem? hget)
    have HXT := Lib.hid hxt
    have hkk : (k : Int) < (vals.length : Int) := by omega
    have HALL : Hid (goodP nv (vals.getD k []) = false → vals.all (goodP nv) = false) := Lib.hid (fun h => by
     rw [List.all_eq_false]
     exact ⟨_, List.mem_of_getElem? hget, by rw [h]; exact Bool.noConfusion⟩)
    generalize vals.getD k [] = t at *
    clear hxt hget
    go_wp2_with fail
    refine (dgood_any _ t nv _ HXT.out hxl hn).mono ?_
    rintro e w2 ⟨he, hf2⟩
    have HF2 := Lib.hid (HFr.out.trans0 hf2)
    clear hf2 c12 hx0
    cases hg : goodP nv t with
    | true =>
     rw [hg] at he
     subst he
     have HA2 := Lib.hid HAT.out
     rw [HA.out, hg] at HA2
     clear hg
     go_wp2_with fail
     go_roundw
     case rel => exact ⟨k + 1, by omega, by go_num, HA2.out, HF2.out⟩
     case measure => simp [intOf]; omega
    | false =>
     rw [hg] at he
     subst he
     have HE : Hid (r = false) := Lib.hid (by rw [HR.out]; unfold valsB; simp only; rw [HALL.out hg, Bool.and_false])
     clear hg
     go_wp2_with fail
     go_ret
     exact ⟨by rw [HE.out]; rfl, HF1.out.trans0 HF2.out⟩
   ·obtain rfl : k = vals.length := by omega
    have HE : Hid (r = true) := Lib.hid (by rw [HR.out]; unfold valsB; have h9 := HA.out; rw [List.take_length] at h9; simp [h9])
    go_wp2_with fail
    go_ret
    exact ⟨by rw [HE.out]; rfl, HF1.out.trans0 HFr.out⟩
 ·have d1 : ((vals.length : Int) != want) = true := by rw [bne_iff_ne]; exact hlen
  have HE : Hid (r = false) := Lib.hid (by rw [HR.out]; unfold valsB; simp only; rw [decide_eq_false hlen, Bool.false_and])
  clear hlen
  go_enter Tryz.func115, Tryz.ntmps115
  go_wp2_with fail
  rw [← HW1.out]
  go_ret
  exact ⟨by rw [HE.out]; rfl, HF1.out⟩
end Go.Proofs.YtgpekgnhbccnoaaGreat
namespace Go.Proofs.YtgpekgnhbccnoaaGreat
open Go Go.RowKit

def DOneRet (TB : List Int) (nv size : Nat) (n : InstrD) (w : World) (e : Ending) (w' : World) : Prop := ∃ b : Bool, e = .returned (.bool b) ∧ (b = true ↔ OneP TB nv size n) ∧ Fr w w' Nil
section
variable {TB : List Int} {nv size : Nat} {op node mode tab : Int} {row : Bool} {col var dst : Int} {eq : Bool} {fro upto : Int} {key : List TermD} {vals : List (List TermD)}
/-- What the letters say of an instruction. -/
structure LetP (op : Int) (bt br bk bm bc bv bo be bf bu b1 b2 bn : Bool) : Prop where
 hop : 1 ≤ op ∧ op ≤ 16
 lbt : bt = true ↔ (op = 1 ∨ op = 2 ∨ op = 3 ∨ op = 4 ∨ op = 5 ∨ op = 6 ∨ op = 7)
 lbr : br = true ↔ (op = 3 ∨ op = 4 ∨ op = 5 ∨ op = 6)
 lbk : bk = true ↔ (op = 1 ∨ op = 2)
 lbm : bm = true ↔ (op = 1)
 lbc : bc = true ↔ (op = 3 ∨ op = 4 ∨ op = 7)
 lbv : bv = true ↔ (op = 3 ∨ op = 7 ∨ op = 8 ∨ op = 12 ∨ op = 13)
 lbo : bo = true ↔ (op = 10 ∨ op = 11 ∨ op = 12 ∨ op = 13)
 lbe : be = true ↔ (op = 11)
 lbf : bf = true ↔ (op = 12)
 lbu : bu = true ↔ (op = 12 ∨ op = 13)
 lb1 : b1 = true ↔ (op = 4 ∨ op = 8 ∨ op = 9)
 lb2 : b2 = true ↔ (op = 11)
 lbn : bn = true ↔ (op = 5)
theorem letP_false {b : Bool} {p : Prop} (h : b = true ↔ p) : b = false ↔ ¬ p := by
 cases b <;> simp_all
variable {bt br bk bm bc bv bo be bf bu b1 b2 bn kb : Bool}
theorem done_not (hl : LetP op bt br bk bm bc bv bo be bf bu b1 b2 bn) (hk : kb = keyedB ⟨op, node, mode, tab, row, col, var, dst, eq, fro, upto, key, vals⟩) (h : OneP TB nv size ⟨op, node, mode, tab, row, col, var, dst, eq, fro, upto, key, vals⟩) : ¬ (bt = true ∧ (tab < 0 ∨ (TB.length : Int) ≤ tab)) ∧ ¬ (bt = false ∧ tab ≠ 0) ∧ ¬ (row = true ∧ bk = false) ∧ ¬ (kb = true ∧ goodP nv key = false) ∧ ¬ (kb = false ∧ 0 < key.length) ∧ ¬ (bm = true ∧ mode ≠ 3 ∧ mode ≠ 5 ∧ (row = true ∨ (mode ≠ 1 ∧ mode ≠ 2))) ∧ ¬ (bm = false ∧ mode ≠ 0) ∧ ¬ (bc = true ∧ (col < 0 ∨ TB.getD tab.toNat 0 ≤ col)) ∧ ¬ (bc = false ∧ col ≠ 0) ∧ ¬ (bv = true ∧ (var < 0 ∨ (nv : Int) ≤ var)) ∧ ¬ (bv = false ∧ var ≠ 0) ∧ ¬ (bo = true ∧ (dst < 0 ∨ (size : Int) ≤ dst)) ∧ ¬ (bo = false ∧ dst ≠ 0) ∧ ¬ (be = false ∧ eq = true) ∧ ¬ (bf = false ∧ fro ≠ 0) ∧ ¬ (bu = false ∧ upto ≠ 0) ∧ valsB ⟨op, node, mode, tab, row, col, var, dst, eq, fro, upto, key, vals⟩ (wantN TB ⟨op, node, mode, tab, row, col, var, dst, eq, fro, upto, key, vals⟩) nv = true := by
 obtain ⟨h0, ⟨m1, m2, m3, m4, m5, m6, m7, m8, m9, m10, m11⟩, h2, h3, h4, h5, h6, ⟨h7, h7'⟩, h8⟩ := h
 unfold TabP at h2
 unfold ColP at h3
 unfold VarP at h4
 unfold DstP at h5
 unfold ModeP at h6
 simp only at h0 m1 m2 m3 m4 m5 m6 m7 m8 m9 m10 m11 h2 h3 h4 h5 h6 h7 h7'
 have hkk : kb = true ↔ Keyed ⟨op, node, mode, tab, row, col, var, dst, eq, fro, upto, key, vals⟩ := by rw [hk]; exact keyedB_iff _
 refine ⟨?_, ?_, ?_, ?_, ?_, ?_, ?_, ?_, ?_, ?_, ?_, ?_, ?_, ?_, ?_, ?_, ?_⟩
 ·exact fun ⟨a, b⟩ => by have := hl.lbt.1 a; have := h2 (by omega); omega
 ·exact fun ⟨a, b⟩ => b (m2 (by have := (letP_false hl.lbt).1 a; have := hl.hop; omega))
 ·exact fun ⟨a, b⟩ => by have h9 := (letP_false hl.lbk).1 b; have := hl.hop; rw [m3 (by omega)] at a; cases a
 ·exact fun ⟨a, b⟩ => by rw [h7 (hkk.1 a)] at b; cases b
 ·exact fun ⟨a, b⟩ => by rw [h7' ((letP_false hkk).1 a)] at b; simp at b
 ·exact fun ⟨a, b, c, d⟩ => by have := h6 (by have := hl.lbm.1 a; omega); rcases this with e | e | ⟨e, f⟩; exact b e; exact c e; rcases d with d | d; rw [d] at e; cases e; exact f.elim d.1 d.2
 ·exact fun ⟨a, b⟩ => b (m1 (by have := (letP_false hl.lbm).1 a; omega))
 ·exact fun ⟨a, b⟩ => by have := h3 (by have := hl.lbc.1 a; omega); omega
 ·exact fun ⟨a, b⟩ => b (m4 (by have := (letP_false hl.lbc).1 a; omega))
 ·exact fun ⟨a, b⟩ => by have := h4 (by have := hl.lbv.1 a; omega); omega
 ·exact fun ⟨a, b⟩ => b (m5 (by have := (letP_false hl.lbv).1 a; omega))
 ·exact fun ⟨a, b⟩ => by have := h5 (by have := hl.lbo.1 a; omega); omega
 ·exact fun ⟨a, b⟩ => b (m6 (by have := (letP_false hl.lbo).1 a; omega))
 ·exact fun ⟨a, b⟩ => by rw [m7 (by have := (letP_false hl.lbe).1 a; omega)] at b; cases b
 ·exact fun ⟨a, b⟩ => b (m8 (by have := (letP_false hl.lbf).1 a; omega))
 ·exact fun ⟨a, b⟩ => b (m9 (by have := (letP_false hl.lbu).1 a; omega))
 ·unfold valsB
  rw [decide_eq_true h8.1, Bool.true_and]
  exact h8.2
theorem done_yes (hl : LetP op bt br bk bm bc bv bo be bf bu b1 b2 bn) (hk : kb = keyedB ⟨op, node, mode, tab, row, col, var, dst, eq, fro, upto, key, vals⟩) (c1 : ¬ (bt = true ∧ (tab < 0 ∨ (TB.length : Int) ≤ tab))) (c2 : ¬ (bt = false ∧ tab ≠ 0)) (c3 : ¬ (row = true ∧ bk = false)) (c4 : ¬ (kb = true ∧ goodP nv key = false)) (c5 : ¬ (kb = false ∧ 0 < key.length)) (c6 : ¬ (bm = true ∧ mode ≠ 3 ∧ mode ≠ 5 ∧ (row = true ∨ (mode ≠ 1 ∧ mode ≠ 2)))) (c7 : ¬ (bm = false ∧ mode ≠ 0)) (c8 : ¬ (bc = true ∧ (col < 0 ∨ TB.getD tab.toNat 0 ≤ col))) (c9 : ¬ (bc = false ∧ col ≠ 0)) (c10 : ¬ (bv = true ∧ (var < 0 ∨ (nv : Int) ≤ var))) (c11 : ¬ (bv = false ∧ var ≠ 0)) (c12 : ¬ (bo = true ∧ (dst < 0 ∨ (size : Int) ≤ dst))) (c13 : ¬ (bo = false ∧ dst ≠ 0)) (c14 : ¬ (be = false ∧ eq = true)) (c15 : ¬ (bf = false ∧ fro ≠ 0)) (c16 : ¬ (bu = false ∧ upto ≠ 0)) (cv : valsB ⟨op, node, mode, tab, row, col, var, dst, eq, fro, upto, key, vals⟩ (wantN TB ⟨op, node, mode, tab, row, col, var, dst, eq, fro, upto, key, vals⟩) nv = true) : OneP TB nv size ⟨op, node, mode, tab, row, col, var, dst, eq, fro, upto, key, vals⟩ := by
 have hkk : kb = true ↔ Keyed ⟨op, node, mode, tab, row, col, var, dst, eq, fro, upto, key, vals⟩ := by rw [hk]; exact keyedB_iff _
 have hop := hl.hop
 have pos : ∀ {b : Bool} {p : Prop}, (b = true ↔ p) → p → b = true := fun h h' => h.2 h'
 have neg : ∀ {b : Bool} {p : Prop}, (b = true ↔ p) → ¬ p → b = false := fun h h' => (letP_false h).2 h'
 have hkey : ¬ Keyed ⟨op, node, mode, tab, row, col, var, dst, eq, fro, upto, key, vals⟩ → key = [] := fun h => by
  have : ¬ 0 < key.length := fun q => c5 ⟨neg hkk h, q⟩
  exact List.eq_nil_of_length_eq_zero (by omega)
 refine ⟨hop, ⟨fun h => ?_, fun h => ?_, fun h => ?_, fun h => ?_, fun h => ?_, fun h => ?_, fun h => ?_, fun h => ?_, fun h => ?_, fun h => ?_, fun h => ?_⟩, fun h => ?_, fun h => ?_, fun h => ?_, fun h => ?_, fun h => ?_, ⟨fun h => ?_, hkey⟩, ?_⟩
 ·exact Decidable.byContradiction fun q => c7 ⟨neg hl.lbm (by simp only at h; omega), q⟩
 ·exact Decidable.byContradiction fun q => c2 ⟨neg hl.lbt (by simp only at h; omega), q⟩
 ·cases hr : row
  ·rfl
  ·exact absurd ⟨hr, neg hl.lbk (by simp only at h; omega)⟩ c3
 ·exact Decidable.byContradiction fun q => c9 ⟨neg hl.lbc (by simp only at h; omega), q⟩
 ·exact Decidable.byContradiction fun q => c11 ⟨neg hl.lbv (by simp only at h; omega), q⟩
 ·exact Decidable.byContradiction fun q => c13 ⟨neg hl.lbo (by simp only at h; omega), q⟩
 ·cases hr : eq
  ·rfl
  ·exact absurd ⟨neg hl.lbe (by simp only at h; omega), hr⟩ c14
 ·exact Decidable.byContradiction fun q => c15 ⟨neg hl.lbf (by simp only at h; omega), q⟩
 ·exact Decidable.byContradiction fun q => c16 ⟨neg hl.lbu (by simp only at h; omega), q⟩
 ·refine hkey fun q => ?_
  unfold Keyed at q
  simp only at q h
  omega
 ·unfold valsB at cv
  rw [Bool.and_eq_true, decide_eq_true_eq] at cv
  have h9 := cv.1
  simp only at h h9 ⊢
  unfold wantN at h9
  simp only at h9
  rw [if_neg (by omega), if_neg (by omega), if_neg (by omega)] at h9
  exact List.eq_nil_of_length_eq_zero (by omega)
 ·have : ¬ (tab < 0 ∨ (TB.length : Int) ≤ tab) := fun q => c1 ⟨pos hl.lbt (by simp only at h; omega), q⟩
  simp only at h ⊢
  omega
 ·have : ¬ (col < 0 ∨ TB.getD tab.toNat 0 ≤ col) := fun q => c8 ⟨pos hl.lbc (by simp only at h; omega), q⟩
  simp only at h ⊢
  omega
 ·have : ¬ (var < 0 ∨ (nv : Int) ≤ var) := fun q => c10 ⟨pos hl.lbv (by simp only at h; omega), q⟩
  simp only at h ⊢
  omega
 ·have : ¬ (dst < 0 ∨ (size : Int) ≤ dst) := fun q => c12 ⟨pos hl.lbo (by simp only at h; omega), q⟩
  simp only at h ⊢
  omega
 ·have hb := pos hl.lbm (by simp only at h; omega)
  simp only at h ⊢
  by_cases m3 : mode = 3
  ·exact .inl m3
  by_cases m5 : mode = 5
  ·exact .inr (.inl m5)
  refine .inr (.inr ?_)
  have h9 := fun q => c6 ⟨hb, m3, m5, q⟩
  cases hr : row
  ·refine ⟨rfl, ?_⟩
   by_cases m1 : mode = 1
   ·exact .inl m1
   ·by_cases m2 : mode = 2
    ·exact .inr m2
    ·exact absurd (.inr ⟨m1, m2⟩) h9
  ·exact absurd (.inl hr) h9
 ·cases hg : goodP nv key
  ·exact absurd ⟨hkk.2 h, hg⟩ c4
  ·rfl
 ·unfold valsB at cv
  rw [Bool.and_eq_true, decide_eq_true_eq] at cv
  exact cv
end
end Go.Proofs.YtgpekgnhbccnoaaGreat
namespace Go.Proofs.YtgpekgnhbccnoaaGreat
open Go Go.RowKit

set_option maxRecDepth 100000 in
set_option maxHeartbeats 16000000 in
theorem done_any (n : InstrD) (kv vv tv : Value) (TB : List Int) (nv size : Nat) (w : World) (hkt : TermsAt w kv n.key) (hvt : ValsAt w vv n.vals) (hf : FewT n.vals) (hkl : n.key.length ≤ 100000) (ht : IntsAt w tv TB) (hTB : TB.length ≤ 100000) (hn : nv ≤ 1000000) :
  Calls Tryz.prog 85 #[n.val kv vv, tv, .int .i64 nv, .int .i64 size] w (DOneRet TB nv size n w) := by
 obtain ⟨op, node, mode, tab, row, col, var, dst, eq, fro, upto, key, vals⟩ := n
 simp only at hkt hvt hf hkl ⊢
 obtain ⟨ka, kc, rfl⟩ := hkt.shape
 obtain ⟨va, vc, rfl⟩ := hvt.shape
 obtain ⟨ta, tc, rfl⟩ := ht.shape
 simp only [InstrD.val]
 obtain ⟨w1, hw1⟩ : ∃ w1, w1 = w.alloc (.cells #[.int .u8 op, .int .i64 node, .int .u8 mode, .int .i64 tab, .bool row, .int .i64 col, .int .i64 var, .int .i64 dst, .bool eq, .int .i64 fro, .int .i64 upto, .slice ka key.length kc, .slice va vals.length vc] 97) := ⟨_, rfl⟩
 have HF1 : Hid (Fr w w1 Nil) := by rw [hw1]; exact Lib.hid ((Fr.refl w Nil).alloc _)
 have HB1 : Hid (Bk w1 w.heap.size 97 #[.int .u8 op, .int .i64 node, .int .u8 mode, .int .i64 tab, .bool row, .int .i64 col, .int .i64 var, .int .i64 dst, .bool eq, .int .i64 fro, .int .i64 upto, .slice ka key.length kc, .slice va vals.length vc].toList) := by rw [hw1]; exact Lib.hid (Bk.new w _ _)
 have HKT := Lib.hid (hkt.fr0 HF1.out)
 have HVT := Lib.hid (hvt.fr0 HF1.out)
 have HT := Lib.hid (ht.fr0 HF1.out)
 have HFV := Lib.hid hf
 have c0 : (w.alloc (.cells #[.int .u8 op, .int .i64 node, .int .u8 mode, .int .i64 tab, .bool row, .int .i64 col, .int .i64 var, .int .i64 dst, .bool eq, .int .i64 fro, .int .i64 upto, .slice ka key.length kc, .slice va vals.length vc] 97)).cell? ⟨w.heap.size, 0, none⟩ = some (.int .u8 op) := by rw [← hw1]; exact HB1.out.cell 0
 have HW1 := Lib.hid hw1
 clear hkt hvt ht hf hw1
 by_cases hop : 1 ≤ op ∧ op ≤ 16
 rotate_left
 ·have HNO : Hid (¬ OneP TB nv size ⟨op, node, mode, tab, row, col, var, dst, eq, fro, upto, key, vals⟩) := Lib.hid fun h => hop h.op
  have h2 : op < 1 ∨ (¬ op < 1 ∧ 16 < op) := by omega
  clear hop
  rcases h2 with h2 | ⟨h2, h3⟩
  all_goals
   go_enter Tryz.func85, Tryz.ntmps85
   go_wp2_with fail
   rw [← HW1.out]
   go_ret
   exact ⟨false, rfl, ⟨(fun h => by cases h), fun h => absurd h HNO.out⟩, HF1.out⟩
 have hlo : ¬ op < 1 := by omega
 have hhi : ¬ 16 < op := by omega
 obtain ⟨bt, hbt⟩ : ∃ b, b = hasP (partB op) 116 := ⟨_, rfl⟩
 have Hbt : Hid (∀ w : World, Calls Tryz.prog 86 #[.string (partB op), .int .u8 116] w fun e w' => e = .returned (.bool bt) ∧ w = w') := Lib.hid (fun w => by have h9 := has_anyD (partB op) 116 w (partB_len hop); rw [← hbt] at h9; exact h9)
 obtain ⟨br, hbr⟩ : ∃ b, b = hasP (partB op) 114 := ⟨_, rfl⟩
 have Hbr : Hid (∀ w : World, Calls Tryz.prog 86 #[.string (partB op), .int .u8 114] w fun e w' => e = .returned (.bool br) ∧ w = w') := Lib.hid (fun w => by have h9 := has_anyD (partB op) 114 w (partB_len hop); rw [← hbr] at h9; exact h9)
 obtain ⟨bk, hbk⟩ : ∃ b, b = hasP (partB op) 107 := ⟨_, rfl⟩
 have Hbk : Hid (∀ w : World, Calls Tryz.prog 86 #[.string (partB op), .int .u8 107] w fun e w' => e = .returned (.bool bk) ∧ w = w') := Lib.hid (fun w => by have h9 := has_anyD (partB op) 107 w (partB_len hop); rw [← hbk] at h9; exact h9)
 obtain ⟨bm, hbm⟩ : ∃ b, b = hasP (partB op) 109 := ⟨_, rfl⟩
 have Hbm : Hid (∀ w : World, Calls Tryz.prog 86 #[.string (partB op), .int .u8 109] w fun e w' => e = .returned (.bool bm) ∧ w = w') := Lib.hid (fun w => by have h9 := has_anyD (partB op) 109 w (partB_len hop); rw [← hbm] at h9; exact h9)
 obtain ⟨bc, hbc⟩ : ∃ b, b = hasP (partB op) 99 := ⟨_, rfl⟩
 have Hbc : Hid (∀ w : World, Calls Tryz.prog 86 #[.string (partB op), .int .u8 99] w fun e w' => e = .returned (.bool bc) ∧ w = w') := Lib.hid (fun w => by have h9 := has_anyD (partB op) 99 w (partB_len hop); rw [← hbc] at h9; exact h9)
 obtain ⟨bv, hbv⟩ : ∃ b, b = hasP (partB op) 118 := ⟨_, rfl⟩
 have Hbv : Hid (∀ w : World, Calls Tryz.prog 86 #[.string (partB op), .int .u8 118] w fun e w' => e = .returned (.bool bv) ∧ w = w') := Lib.hid (fun w => by have h9 := has_anyD (partB op) 118 w (partB_len hop); rw [← hbv] at h9; exact h9)
 obtain ⟨bo, hbo⟩ : ∃ b, b = hasP (partB op) 111 := ⟨_, rfl⟩
 have Hbo : Hid (∀ w : World, Calls Tryz.prog 86 #[.string (partB op), .int .u8 111] w fun e w' => e = .returned (.bool bo) ∧ w = w') := Lib.hid (fun w => by have h9 := has_anyD (partB op) 111 w (partB_len hop); rw [← hbo] at h9; exact h9)
 obtain ⟨be, hbe⟩ : ∃ b, b = hasP (partB op) 101 := ⟨_, rfl⟩
 have Hbe : Hid (∀ w : World, Calls Tryz.prog 86 #[.string (partB op), .int .u8 101] w fun e w' => e = .returned (.bool be) ∧ w = w') := Lib.hid (fun w => by have h9 := has_anyD (partB op) 101 w (partB_len hop); rw [← hbe] at h9; exact h9)
 obtain ⟨bf, hbf⟩ : ∃ b, b = hasP (partB op) 102 := ⟨_, rfl⟩
 have Hbf : Hid (∀ w : World, Calls Tryz.prog 86 #[.string (partB op), .int .u8 102] w fun e w' => e = .returned (.bool bf) ∧ w = w') := Lib.hid (fun w => by have h9 := has_anyD (partB op) 102 w (partB_len hop); rw [← hbf] at h9; exact h9)
 obtain ⟨bu, hbu⟩ : ∃ b, b = hasP (partB op) 117 := ⟨_, rfl⟩
 have Hbu : Hid (∀ w : World, Calls Tryz.prog 86 #[.string (partB op), .int .u8 117] w fun e w' => e = .returned (.bool bu) ∧ w = w') := Lib.hid (fun w => by have h9 := has_anyD (partB op) 117 w (partB_len hop); rw [← hbu] at h9; exact h9)
 obtain ⟨b1, hb1⟩ : ∃ b, b = hasP (partB op) 49 := ⟨_, rfl⟩
 have Hb1 : Hid (∀ w : World, Calls Tryz.prog 86 #[.string (partB op), .int .u8 49] w fun e w' => e = .returned (.bool b1) ∧ w = w') := Lib.hid (fun w => by have h9 := has_anyD (partB op) 49 w (partB_len hop); rw [← hb1] at h9; exact h9)
 obtain ⟨b2, hb2⟩ : ∃ b, b = hasP (partB op) 50 := ⟨_, rfl⟩
 have Hb2 : Hid (∀ w : World, Calls Tryz.prog 86 #[.string (partB op), .int .u8 50] w fun e w' => e = .returned (.bool b2) ∧ w = w') := Lib.hid (fun w => by have h9 := has_anyD (partB op) 50 w (partB_len hop); rw [← hb2] at h9; exact h9)
 obtain ⟨bn, hbn⟩ : ∃ b, b = hasP (partB op) 110 := ⟨_, rfl⟩
 have Hbn : Hid (∀ w : World, Calls Tryz.prog 86 #[.string (partB op), .int .u8 110] w fun e w' => e = .returned (.bool bn) ∧ w = w') := Lib.hid (fun w => by have h9 := has_anyD (partB op) 110 w (partB_len hop); rw [← hbn] at h9; exact h9)
 have HLP : Hid (LetP op bt br bk bm bc bv bo be bf bu b1 b2 bn) := Lib.hid ⟨hop, by rw [hbt, part_t hop, decide_eq_true_eq], by rw [hbr, part_r hop, decide_eq_true_eq], by rw [hbk, part_k hop, decide_eq_true_eq], by rw [hbm, part_m hop, decide_eq_true_eq], by rw [hbc, part_c hop, decide_eq_true_eq], by rw [hbv, part_v hop, decide_eq_true_eq], by rw [hbo, part_o hop, decide_eq_true_eq], by rw [hbe, part_e hop, decide_eq_true_eq], by rw [hbf, part_f hop, decide_eq_true_eq], by rw [hbu, part_u hop, decide_eq_true_eq], by rw [hb1, part_one hop, decide_eq_true_eq], by rw [hb2, part_two hop, decide_eq_true_eq], by rw [hbn, part_n hop, decide_eq_true_eq]⟩
 clear hbt hbr hbk hbm hbc hbv hbo hbe hbf hbu hb1 hb2 hbn
 obtain ⟨kb, hkb⟩ : ∃ kb, kb = keyedB ⟨op, node, mode, tab, row, col, var, dst, eq, fro, upto, key, vals⟩ := ⟨_, rfl⟩
 have HKB := Lib.hid hkb
 have hkk : kb = true ↔ Keyed ⟨op, node, mode, tab, row, col, var, dst, eq, fro, upto, key, vals⟩ := by rw [hkb]; exact keyedB_iff _
 have HKK := Lib.hid hkk
 clear hkb hkk
 have HNOT := Lib.hid (fun h : OneP TB nv size ⟨op, node, mode, tab, row, col, var, dst, eq, fro, upto, key, vals⟩ => done_not HLP.out HKB.out h)
 go_enter Tryz.func85, Tryz.ntmps85
 go_wp2_with fail
 rw [← HW1.out]
 refine (part_any op _ hop).mono ?_
 rintro e w3 ⟨rfl, hf3⟩
 obtain ⟨s, hs⟩ : ∃ s, s = partB op := ⟨_, rfl⟩
 rw [← hs]
 rw [← hs] at Hbt
 rw [← hs] at Hbr
 rw [← hs] at Hbk
 rw [← hs] at Hbm
 rw [← hs] at Hbc
 rw [← hs] at Hbv
 rw [← hs] at Hbo
 rw [← hs] at Hbe
 rw [← hs] at Hbf
 rw [← hs] at Hbu
 rw [← hs] at Hb1
 rw [← hs] at Hb2
 rw [← hs] at Hbn
 have HF3 := Lib.hid (HF1.out.trans0 hf3)
 have HB3 := Lib.hid (HB1.out.fr hf3 fun h => h)
 have HKT3 := Lib.hid (HKT.out.fr0 hf3)
 have HVT3 := Lib.hid (HVT.out.fr0 hf3)
 have HT3 := Lib.hid (HT.out.fr0 hf3)
 clear hs hf3 c0 hlo hhi hop
 have y0 : w3.cell? ⟨w.heap.size, 0, none⟩ = some (.int .u8 op) := HB3.out.cell 0
 have y1 : w3.cell? ⟨w.heap.size, 1, none⟩ = some (.int .i64 node) := HB3.out.cell 1
 have y2 : w3.cell? ⟨w.heap.size, 2, none⟩ = some (.int .u8 mode) := HB3.out.cell 2
 have y3 : w3.cell? ⟨w.heap.size, 3, none⟩ = some (.int .i64 tab) := HB3.out.cell 3
 have y4 : w3.cell? ⟨w.heap.size, 4, none⟩ = some (.bool row) := HB3.out.cell 4
 have y5 : w3.cell? ⟨w.heap.size, 5, none⟩ = some (.int .i64 col) := HB3.out.cell 5
 have y6 : w3.cell? ⟨w.heap.size, 6, none⟩ = some (.int .i64 var) := HB3.out.cell 6
 have y7 : w3.cell? ⟨w.heap.size, 7, none⟩ = some (.int .i64 dst) := HB3.out.cell 7
 have y8 : w3.cell? ⟨w.heap.size, 8, none⟩ = some (.bool eq) := HB3.out.cell 8
 have y9 : w3.cell? ⟨w.heap.size, 9, none⟩ = some (.int .i64 fro) := HB3.out.cell 9
 have y10 : w3.cell? ⟨w.heap.size, 10, none⟩ = some (.int .i64 upto) := HB3.out.cell 10
 have y11 : w3.cell? ⟨w.heap.size, 11, none⟩ = some (.slice ka key.length kc) := HB3.out.cell 11
 have y12 : w3.cell? ⟨w.heap.size, 12, none⟩ = some (.slice va vals.length vc) := HB3.out.cell 12
 go_upto_region 4 with (fail)
 go_cut [10] from 23 to 32 (fun v10 wx => v10 = .bool kb ∧ w3 = wx)
 case first =>
  cases hbr : br
  ·cases hbk : bk
   ·subst hbr
    subst hbk
    have HE : Hid (kb = false) := Lib.hid ((letP_false HKK.out).2 (by have h1 := (letP_false HLP.out.lbr).1 rfl; have h2 := (letP_false HLP.out.lbk).1 rfl; have := HLP.out.hop; unfold Keyed; simp only; omega))
    go_wp2_with fail
    refine (Hbr.out _).mono ?_
    rintro e wq ⟨rfl, rfl⟩
    go_wp2_with fail
    refine (Hbk.out _).mono ?_
    rintro e wq ⟨rfl, rfl⟩
    go_wp2_with fail
    go_meet
    case rel => exact ⟨by rw [HE.out], rfl⟩
   ·subst hbr
    subst hbk
    have HE : Hid (kb = row) := Lib.hid (by have h1 := (letP_false HLP.out.lbr).1 rfl; have h2 := HLP.out.lbk.1 rfl; have h3 := HKK.out; unfold Keyed at h3; simp only at h3; cases hr : row; exact (letP_false h3).2 (by rw [hr]; simp; omega); exact h3.2 (.inr ⟨by omega, hr⟩))
    go_wp2_with fail
    refine (Hbr.out _).mono ?_
    rintro e wq ⟨rfl, rfl⟩
    go_wp2_with fail
    refine (Hbk.out _).mono ?_
    rintro e wq ⟨rfl, rfl⟩
    go_wp2_with fail
    go_meet
    case rel => exact ⟨by rw [HE.out], rfl⟩
  ·subst hbr
   have HE : Hid (kb = true) := Lib.hid (HKK.out.2 (.inl (by have h1 := HLP.out.lbr.1 rfl; simp only; omega)))
   go_wp2_with fail
   refine (Hbr.out _).mono ?_
   rintro e wq ⟨rfl, rfl⟩
   go_wp2_with fail
   go_meet
   case rel => exact ⟨by rw [HE.out], rfl⟩
 case rest =>
  obtain ⟨rfl, rfl⟩ := hcut
  go_upto_region 5 with (fail)
  go_cut [33] from 34 to 47 (fun v wx => ∃ b : Bool, v = .bool b ∧ (b = true ↔ bt = true ∧ (tab < 0 ∨ (TB.length : Int) ≤ tab)) ∧ w3 = wx)
  case first =>
   rcases (show (bt = false) ∨ (bt = true ∧ tab < 0) ∨ (bt = true ∧ ¬ tab < 0 ∧ (TB.length : Int) ≤ tab) ∨ (bt = true ∧ ¬ tab < 0 ∧ ¬ (TB.length : Int) ≤ tab) by cases bt <;> simp <;> omega) with rfl | ⟨rfl, q1⟩ | ⟨rfl, q1, q2⟩ | ⟨rfl, q1, q2⟩
   ·go_wp2_with fail
    refine (Hbt.out _).mono ?_
    rintro e wq ⟨rfl, rfl⟩
    go_wp2_with fail
    go_meet
    case rel => exact ⟨false, (by first | rfl | simp_all), by simp_all, rfl⟩
   ·go_wp2_with fail
    refine (Hbt.out _).mono ?_
    rintro e wq ⟨rfl, rfl⟩
    go_wp2_with fail
    go_meet
    case rel => exact ⟨true, (by first | rfl | simp_all), by simp_all, rfl⟩
   ·go_wp2_with fail
    refine (Hbt.out _).mono ?_
    rintro e wq ⟨rfl, rfl⟩
    go_wp2_with fail
    go_meet
    case rel => exact ⟨true, (by first | rfl | simp_all), by simp_all, rfl⟩
   ·go_wp2_with fail
    refine (Hbt.out _).mono ?_
    rintro e wq ⟨rfl, rfl⟩
    go_wp2_with fail
    go_meet
    case rel => exact ⟨false, (by first | rfl | simp_all), by simp_all, rfl⟩
  case rest =>
   obtain ⟨b, rfl, hb, rfl⟩ := hcut
   cases b
   rotate_left
   ·have HQ := Lib.hid (hb.1 rfl)
    clear hb y0 y1 y2 y3 y4 y5 y6 y7 y8 y9 y10 y11 y12
    go_wp2_with fail
    go_ret
    exact ⟨false, rfl, ⟨(fun h => by cases h), fun h => absurd HQ.out (HNOT.out h).1⟩, HF3.out⟩
   have HC1 := Lib.hid (show ¬ (bt = true ∧ (tab < 0 ∨ (TB.length : Int) ≤ tab)) from fun q => Bool.noConfusion (hb.2 q))
   clear hb
   go_upto_region 6 with (fail)
   go_cut [33] from 48 to 55 (fun v wx => ∃ b : Bool, v = .bool b ∧ (b = true ↔ bt = false ∧ tab ≠ 0) ∧ w3 = wx)
   case first =>
    rcases (show (bt = true) ∨ (bt = false ∧ tab = 0) ∨ (bt = false ∧ tab ≠ 0) by cases bt <;> simp <;> omega) with rfl | ⟨rfl, q1⟩ | ⟨rfl, q1⟩
    ·go_wp2_with fail
     refine (Hbt.out _).mono ?_
     rintro e wq ⟨rfl, rfl⟩
     go_wp2_with fail
     go_meet
     case rel => exact ⟨false, (by first | rfl | simp_all), by simp_all, rfl⟩
    ·have d1 : (tab != 0) = false := by rw [bne_eq_false_iff_eq]; exact q1
     have Q1 := Lib.hid q1
     clear q1
     go_wp2_with fail
     refine (Hbt.out _).mono ?_
     rintro e wq ⟨rfl, rfl⟩
     go_wp2_with fail
     go_meet
     case rel => exact ⟨false, (by first | rfl | simp_all), by have q1 := Q1.out; simp_all, rfl⟩
    ·have d1 : (tab != 0) = true := by rw [bne_iff_ne]; exact q1
     go_wp2_with fail
     refine (Hbt.out _).mono ?_
     rintro e wq ⟨rfl, rfl⟩
     go_wp2_with fail
     go_meet
     case rel => exact ⟨true, (by first | rfl | simp_all), by simp_all, rfl⟩
   case rest =>
    obtain ⟨b, rfl, hb, rfl⟩ := hcut
    cases b
    rotate_left
    ·have HQ := Lib.hid (hb.1 rfl)
     clear hb y0 y1 y2 y3 y4 y5 y6 y7 y8 y9 y10 y11 y12
     go_wp2_with fail
     go_ret
     exact ⟨false, rfl, ⟨(fun h => by cases h), fun h => absurd HQ.out (HNOT.out h).2.1⟩, HF3.out⟩
    have HC2 := Lib.hid (show ¬ (bt = false ∧ tab ≠ 0) from fun q => Bool.noConfusion (hb.2 q))
    clear hb
    go_upto_region 8 with (fail)
    go_cut [56] from 57 to 63 (fun v wx => ∃ b : Bool, v = .bool b ∧ (b = true ↔ row = true ∧ bk = false) ∧ w3 = wx)
    case first =>
     rcases (show (row = false) ∨ (row = true ∧ bk = true) ∨ (row = true ∧ bk = false) by cases row <;> cases bk <;> simp) with rfl | ⟨rfl, rfl⟩ | ⟨rfl, rfl⟩
     ·go_wp2_with fail
      go_meet
      case rel => exact ⟨false, (by first | rfl | simp_all), by simp_all, rfl⟩
     ·go_wp2_with fail
      refine (Hbk.out _).mono ?_
      rintro e wq ⟨rfl, rfl⟩
      go_wp2_with fail
      go_meet
      case rel => exact ⟨false, (by first | rfl | simp_all), by simp_all, rfl⟩
     ·go_wp2_with fail
      refine (Hbk.out _).mono ?_
      rintro e wq ⟨rfl, rfl⟩
      go_wp2_with fail
      go_meet
      case rel => exact ⟨true, (by first | rfl | simp_all), by simp_all, rfl⟩
    case rest =>
     obtain ⟨b, rfl, hb, rfl⟩ := hcut
     cases b
     rotate_left
     ·have HQ := Lib.hid (hb.1 rfl)
      clear hb y0 y1 y2 y3 y4 y5 y6 y7 y8 y9 y10 y11 y12
      go_wp2_with fail
      go_ret
      exact ⟨false, rfl, ⟨(fun h => by cases h), fun h => absurd HQ.out (HNOT.out h).2.2.1⟩, HF3.out⟩
     have HC3 := Lib.hid (show ¬ (row = true ∧ bk = false) from fun q => Bool.noConfusion (hb.2 q))
     clear hb
     go_upto_region 9 with (fail)
     go_cut [56] from 64 to 71 (fun v wx => ∃ b : Bool, v = .bool b ∧ (b = true ↔ kb = true ∧ goodP nv key = false) ∧ Fr w3 wx Nil)
     case first =>
      rcases (show (kb = false) ∨ (kb = true ∧ goodP nv key = true) ∨ (kb = true ∧ goodP nv key = false) by cases kb <;> cases goodP nv key <;> simp) with rfl | ⟨rfl, q1⟩ | ⟨rfl, q1⟩
      ·have HFR := Lib.hid (Fr.refl w3 Nil)
       go_wp2_with fail
       go_meet
       case rel => exact ⟨false, (by first | rfl | simp_all), by simp_all, HFR.out⟩
      ·go_wp2_with fail
       refine (dgood_any _ key nv _ HKT3.out hkl hn).mono ?_
       rintro e wq ⟨he, hfq⟩
       have HFR := Lib.hid hfq
       clear hfq
       rw [q1] at he
       subst he
       go_wp2_with fail
       go_meet
       case rel => exact ⟨false, (by first | rfl | simp_all), by simp_all, HFR.out⟩
      ·go_wp2_with fail
       refine (dgood_any _ key nv _ HKT3.out hkl hn).mono ?_
       rintro e wq ⟨he, hfq⟩
       have HFR := Lib.hid hfq
       clear hfq
       rw [q1] at he
       subst he
       go_wp2_with fail
       go_meet
       case rel => exact ⟨true, (by first | rfl | simp_all), by simp_all, HFR.out⟩
     case rest =>
      obtain ⟨b, rfl, hb, hfc⟩ := hcut
      obtain ⟨w7, rfl⟩ : ∃ w5 : World, w5 = wc := ⟨_, rfl⟩
      have HB7 := Lib.hid (HB3.out.fr hfc fun h => h)
      have HF7 := Lib.hid (HF3.out.trans0 hfc)
      have HKT7 := Lib.hid (HKT3.out.fr0 hfc)
      have HVT7 := Lib.hid (HVT3.out.fr0 hfc)
      have HT7 := Lib.hid (HT3.out.fr0 hfc)
      clear hfc y0 y1 y2 y3 y4 y5 y6 y7 y8 y9 y10 y11 y12
      have y0 : w7.cell? ⟨w.heap.size, 0, none⟩ = some (.int .u8 op) := HB7.out.cell 0
      have y1 : w7.cell? ⟨w.heap.size, 1, none⟩ = some (.int .i64 node) := HB7.out.cell 1
      have y2 : w7.cell? ⟨w.heap.size, 2, none⟩ = some (.int .u8 mode) := HB7.out.cell 2
      have y3 : w7.cell? ⟨w.heap.size, 3, none⟩ = some (.int .i64 tab) := HB7.out.cell 3
      have y4 : w7.cell? ⟨w.heap.size, 4, none⟩ = some (.bool row) := HB7.out.cell 4
      have y5 : w7.cell? ⟨w.heap.size, 5, none⟩ = some (.int .i64 col) := HB7.out.cell 5
      have y6 : w7.cell? ⟨w.heap.size, 6, none⟩ = some (.int .i64 var) := HB7.out.cell 6
      have y7 : w7.cell? ⟨w.heap.size, 7, none⟩ = some (.int .i64 dst) := HB7.out.cell 7
      have y8 : w7.cell? ⟨w.heap.size, 8, none⟩ = some (.bool eq) := HB7.out.cell 8
      have y9 : w7.cell? ⟨w.heap.size, 9, none⟩ = some (.int .i64 fro) := HB7.out.cell 9
      have y10 : w7.cell? ⟨w.heap.size, 10, none⟩ = some (.int .i64 upto) := HB7.out.cell 10
      have y11 : w7.cell? ⟨w.heap.size, 11, none⟩ = some (.slice ka key.length kc) := HB7.out.cell 11
      have y12 : w7.cell? ⟨w.heap.size, 12, none⟩ = some (.slice va vals.length vc) := HB7.out.cell 12
      cases b
      rotate_left
      ·have HQ := Lib.hid (hb.1 rfl)
       clear hb y0 y1 y2 y3 y4 y5 y6 y7 y8 y9 y10 y11 y12
       go_wp2_with fail
       go_ret
       exact ⟨false, rfl, ⟨(fun h => by cases h), fun h => absurd HQ.out (HNOT.out h).2.2.2.1⟩, HF7.out⟩
      have HC4 := Lib.hid (show ¬ (kb = true ∧ goodP nv key = false) from fun q => Bool.noConfusion (hb.2 q))
      clear hb
      go_upto_region 10 with (fail)
      go_cut [56] from 72 to 79 (fun v wx => ∃ b : Bool, v = .bool b ∧ (b = true ↔ kb = false ∧ 0 < key.length) ∧ w7 = wx)
      case first =>
       rcases (show (kb = true) ∨ (kb = false ∧ key.length = 0) ∨ (kb = false ∧ 0 < key.length) by (cases kb; by_cases a : key.length = 0; exact .inr (.inl ⟨rfl, a⟩); exact .inr (.inr ⟨rfl, by omega⟩); exact .inl rfl)) with rfl | ⟨rfl, q1⟩ | ⟨rfl, q1⟩
       ·go_wp2_with fail
        go_meet
        case rel => exact ⟨false, (by first | rfl | simp_all), by simp_all, rfl⟩
       ·have q2 : ¬ (0 : Int) < (key.length : Int) := by omega
        have Q1 := Lib.hid q1
        clear q1
        go_wp2_with fail
        go_meet
        case rel => exact ⟨false, (by first | rfl | simp_all), by have q1 := Q1.out; simp_all, rfl⟩
       ·have q2 : (0 : Int) < (key.length : Int) := by omega
        go_wp2_with fail
        go_meet
        case rel => exact ⟨true, (by first | rfl | simp_all), by simp_all, rfl⟩
      case rest =>
       obtain ⟨b, rfl, hb, rfl⟩ := hcut
       cases b
       rotate_left
       ·have HQ := Lib.hid (hb.1 rfl)
        clear hb y0 y1 y2 y3 y4 y5 y6 y7 y8 y9 y10 y11 y12
        go_wp2_with fail
        go_ret
        exact ⟨false, rfl, ⟨(fun h => by cases h), fun h => absurd HQ.out (HNOT.out h).2.2.2.2.1⟩, HF7.out⟩
       have HC5 := Lib.hid (show ¬ (kb = false ∧ 0 < key.length) from fun q => Bool.noConfusion (hb.2 q))
       clear hb
       go_upto_region 12 with (fail)
       go_cut [80] from 81 to 106 (fun v wx => ∃ b : Bool, v = .bool b ∧ (b = true ↔ bm = true ∧ mode ≠ 3 ∧ mode ≠ 5 ∧ (row = true ∨ (mode ≠ 1 ∧ mode ≠ 2))) ∧ w7 = wx)
       case first =>
        rcases (show (bm = false) ∨ (bm = true ∧ mode = 3) ∨ (bm = true ∧ mode ≠ 3 ∧ mode = 5) ∨ (bm = true ∧ mode ≠ 3 ∧ mode ≠ 5 ∧ row = true) ∨ (bm = true ∧ mode ≠ 3 ∧ mode ≠ 5 ∧ row = false ∧ mode = 1) ∨ (bm = true ∧ mode ≠ 3 ∧ mode ≠ 5 ∧ row = false ∧ mode ≠ 1 ∧ mode = 2) ∨ (bm = true ∧ mode ≠ 3 ∧ mode ≠ 5 ∧ row = false ∧ mode ≠ 1 ∧ mode ≠ 2) by (cases bm; exact .inl rfl; by_cases m3 : mode = 3; exact .inr (.inl ⟨rfl, m3⟩); by_cases m5 : mode = 5; exact .inr (.inr (.inl ⟨rfl, m3, m5⟩)); cases row; by_cases m1 : mode = 1; exact .inr (.inr (.inr (.inr (.inl ⟨rfl, m3, m5, rfl, m1⟩)))); by_cases m2 : mode = 2; exact .inr (.inr (.inr (.inr (.inr (.inl ⟨rfl, m3, m5, rfl, m1, m2⟩))))); exact .inr (.inr (.inr (.inr (.inr (.inr ⟨rfl, m3, m5, rfl, m1, m2⟩))))); exact .inr (.inr (.inr (.inl ⟨rfl, m3, m5, rfl⟩))))) with rfl | ⟨rfl, q1⟩ | ⟨rfl, q0, q1⟩ | ⟨rfl, q1, q2, rfl⟩ | ⟨rfl, q0, q2, rfl, q1⟩ | ⟨rfl, q0, q2, rfl, q3, q1⟩ | ⟨rfl, q1, q2, rfl, q3, q4⟩
        ·go_wp2_with fail
         refine (Hbm.out _).mono ?_
         rintro e wq ⟨rfl, rfl⟩
         go_wp2_with fail
         go_meet
         case rel => exact ⟨false, (by first | rfl | simp_all), by simp_all, rfl⟩
        ·have d3 : (mode != 3) = false := by rw [bne_eq_false_iff_eq]; assumption
         have Q1 := Lib.hid q1
         clear q1
         go_wp2_with fail
         refine (Hbm.out _).mono ?_
         rintro e wq ⟨rfl, rfl⟩
         go_wp2_with fail
         go_meet
         case rel => exact ⟨false, (by first | rfl | simp_all), by have q1 := Q1.out; simp_all, rfl⟩
        ·have d3 : (mode != 3) = true := by rw [bne_iff_ne]; assumption
         have d5 : (mode != 5) = false := by rw [bne_eq_false_iff_eq]; assumption
         have Q1 := Lib.hid q1
         clear q1
         go_wp2_with fail
         refine (Hbm.out _).mono ?_
         rintro e wq ⟨rfl, rfl⟩
         go_wp2_with fail
         go_meet
         case rel => exact ⟨false, (by first | rfl | simp_all), by have q1 := Q1.out; simp_all, rfl⟩
        ·have d3 : (mode != 3) = true := by rw [bne_iff_ne]; assumption
         have d5 : (mode != 5) = true := by rw [bne_iff_ne]; assumption
         go_wp2_with fail
         refine (Hbm.out _).mono ?_
         rintro e wq ⟨rfl, rfl⟩
         go_wp2_with fail
         go_meet
         case rel => exact ⟨true, (by first | rfl | simp_all), by simp_all, rfl⟩
        ·have d3 : (mode != 3) = true := by rw [bne_iff_ne]; assumption
         have d5 : (mode != 5) = true := by rw [bne_iff_ne]; assumption
         have d1 : (mode != 1) = false := by rw [bne_eq_false_iff_eq]; assumption
         have Q1 := Lib.hid q1
         clear q1
         go_wp2_with fail
         refine (Hbm.out _).mono ?_
         rintro e wq ⟨rfl, rfl⟩
         go_wp2_with fail
         go_meet
         case rel => exact ⟨false, (by first | rfl | simp_all), by have q1 := Q1.out; simp_all, rfl⟩
        ·have d3 : (mode != 3) = true := by rw [bne_iff_ne]; assumption
         have d5 : (mode != 5) = true := by rw [bne_iff_ne]; assumption
         have d1 : (mode != 1) = true := by rw [bne_iff_ne]; assumption
         have d2 : (mode != 2) = false := by rw [bne_eq_false_iff_eq]; assumption
         have Q1 := Lib.hid q1
         clear q1
         go_wp2_with fail
         refine (Hbm.out _).mono ?_
         rintro e wq ⟨rfl, rfl⟩
         go_wp2_with fail
         go_meet
         case rel => exact ⟨false, (by first | rfl | simp_all), by have q1 := Q1.out; simp_all, rfl⟩
        ·have d3 : (mode != 3) = true := by rw [bne_iff_ne]; assumption
         have d5 : (mode != 5) = true := by rw [bne_iff_ne]; assumption
         have d1 : (mode != 1) = true := by rw [bne_iff_ne]; assumption
         have d2 : (mode != 2) = true := by rw [bne_iff_ne]; assumption
         go_wp2_with fail
         refine (Hbm.out _).mono ?_
         rintro e wq ⟨rfl, rfl⟩
         go_wp2_with fail
         go_meet
         case rel => exact ⟨true, (by first | rfl | simp_all), by simp_all, rfl⟩
       case rest =>
        obtain ⟨b, rfl, hb, rfl⟩ := hcut
        cases b
        rotate_left
        ·have HQ := Lib.hid (hb.1 rfl)
         clear hb y0 y1 y2 y3 y4 y5 y6 y7 y8 y9 y10 y11 y12
         go_wp2_with fail
         go_ret
         exact ⟨false, rfl, ⟨(fun h => by cases h), fun h => absurd HQ.out (HNOT.out h).2.2.2.2.2.1⟩, HF7.out⟩
        have HC6 := Lib.hid (show ¬ (bm = true ∧ mode ≠ 3 ∧ mode ≠ 5 ∧ (row = true ∨ (mode ≠ 1 ∧ mode ≠ 2))) from fun q => Bool.noConfusion (hb.2 q))
        clear hb
        go_upto_region 13 with (fail)
        go_cut [80] from 107 to 114 (fun v wx => ∃ b : Bool, v = .bool b ∧ (b = true ↔ bm = false ∧ mode ≠ 0) ∧ w7 = wx)
        case first =>
         rcases (show (bm = true) ∨ (bm = false ∧ mode = 0) ∨ (bm = false ∧ mode ≠ 0) by cases bm <;> simp <;> omega) with rfl | ⟨rfl, q1⟩ | ⟨rfl, q1⟩
         ·go_wp2_with fail
          refine (Hbm.out _).mono ?_
          rintro e wq ⟨rfl, rfl⟩
          go_wp2_with fail
          go_meet
          case rel => exact ⟨false, (by first | rfl | simp_all), by simp_all, rfl⟩
         ·have d1 : (mode != 0) = false := by rw [bne_eq_false_iff_eq]; exact q1
          have Q1 := Lib.hid q1
          clear q1
          go_wp2_with fail
          refine (Hbm.out _).mono ?_
          rintro e wq ⟨rfl, rfl⟩
          go_wp2_with fail
          go_meet
          case rel => exact ⟨false, (by first | rfl | simp_all), by have q1 := Q1.out; simp_all, rfl⟩
         ·have d1 : (mode != 0) = true := by rw [bne_iff_ne]; exact q1
          go_wp2_with fail
          refine (Hbm.out _).mono ?_
          rintro e wq ⟨rfl, rfl⟩
          go_wp2_with fail
          go_meet
          case rel => exact ⟨true, (by first | rfl | simp_all), by simp_all, rfl⟩
        case rest =>
         obtain ⟨b, rfl, hb, rfl⟩ := hcut
         cases b
         rotate_left
         ·have HQ := Lib.hid (hb.1 rfl)
          clear hb y0 y1 y2 y3 y4 y5 y6 y7 y8 y9 y10 y11 y12
          go_wp2_with fail
          go_ret
          exact ⟨false, rfl, ⟨(fun h => by cases h), fun h => absurd HQ.out (HNOT.out h).2.2.2.2.2.2.1⟩, HF7.out⟩
         have HC7 := Lib.hid (show ¬ (bm = false ∧ mode ≠ 0) from fun q => Bool.noConfusion (hb.2 q))
         clear hb
         have HTAB : Hid (bc = true → 0 ≤ tab ∧ tab < TB.length) := Lib.hid (fun h => by have h1 := HLP.out.lbc.1 h; have h3 := HLP.out.lbt.2 (by omega); have h4 : ¬ (tab < 0 ∨ (TB.length : Int) ≤ tab) := fun q => HC1.out ⟨h3, q⟩; omega)
         go_upto_region 15 with (fail)
         go_cut [115] from 116 to 132 (fun v wx => ∃ b : Bool, v = .bool b ∧ (b = true ↔ bc = true ∧ (col < 0 ∨ TB.getD tab.toNat 0 ≤ col)) ∧ Fr w7 wx Nil)
         case first =>
          rcases (show (bc = false) ∨ (bc = true ∧ col < 0) ∨ (bc = true ∧ ¬ col < 0 ∧ TB.getD tab.toNat 0 ≤ col) ∨ (bc = true ∧ ¬ col < 0 ∧ ¬ TB.getD tab.toNat 0 ≤ col) by (cases bc; exact .inl rfl; by_cases a : col < 0; exact .inr (.inl ⟨rfl, a⟩); by_cases b : TB.getD tab.toNat 0 ≤ col; exact .inr (.inr (.inl ⟨rfl, a, b⟩)); exact .inr (.inr (.inr ⟨rfl, a, b⟩)))) with rfl | ⟨rfl, q1⟩ | ⟨rfl, q1, q2⟩ | ⟨rfl, q1, q2⟩
          ·have k3 := KeptF.cell y3
           have k5 := KeptF.cell y5
           go_wp2_with fail
           refine wp_region_sink 17 (KeptF w7) (by kernel_rfl) ?_
           have hSa : KeptF w7 w7.drew := KeptF.start _
           refine tk 0 hSa ?_
           try simp only [Act.put, sA, sB, sC]
           refine on1 1 fun K hK => ?_
           go_simp
           refine (Hbc.out _).mono ?_
           rintro e wq ⟨rfl, rfl⟩
           refine hK.out _ _ hSa ?_
           clear hK K
           try simp only [Act.put, sA, sB, sC]
           refine tk 2 hSa ?_
           try simp only [Act.put, sA, sB, sC]
           refine wpAnyS_skip (i := 3) rfl (by kernel_rfl) (fun _ _ _ h => h) (by rfl) hSa ?_
           try simp only [Act.put, sA, sB, sC]
           refine wpAnyS_skip (i := 4) rfl (by kernel_rfl) (fun _ _ _ h => h) (by rfl) hSa ?_
           try simp only [Act.put, sA, sB, sC]
           refine wpAnyS_skip (i := 5) rfl (by kernel_rfl) (fun _ _ _ h => h) (by rfl) hSa ?_
           try simp only [Act.put, sA, sB, sC]
           refine wpAnyS_skip (i := 6) rfl (by kernel_rfl) (fun _ _ _ h => h) (by rfl) hSa ?_
           try simp only [Act.put, sA, sB, sC]
           refine wpAnyS_skip (i := 7) rfl (by kernel_rfl) (fun _ _ _ h => h) (by rfl) hSa ?_
           try simp only [Act.put, sA, sB, sC]
           refine wpAnyS_skip (i := 8) rfl (by kernel_rfl) (fun _ _ _ h => h) (by rfl) hSa ?_
           try simp only [Act.put, sA, sB, sC]
           refine wpAnyS_skip (i := 9) rfl (by kernel_rfl) (fun _ _ _ h => h) (by rfl) hSa ?_
           try simp only [Act.put, sA, sB, sC]
           refine wpAnyS_skip (i := 10) rfl (by kernel_rfl) (fun _ _ _ h => h) (by rfl) hSa ?_
           try simp only [Act.put, sA, sB, sC]
           refine wpAnyS_skip (i := 11) rfl (by kernel_rfl) (fun _ _ _ h => h) (by rfl) hSa ?_
           try simp only [Act.put, sA, sB, sC]
           refine wpAnyS_skip (i := 12) rfl (by kernel_rfl) (fun _ _ _ h => h) (by rfl) hSa ?_
           try simp only [Act.put, sA, sB, sC]
           refine wpAnyS_skip (i := 13) rfl (by kernel_rfl) (fun _ _ _ h => h) (by rfl) hSa ?_
           try simp only [Act.put, sA, sB, sC]
           refine wpAnyS_skip (i := 14) rfl (by kernel_rfl) (fun _ _ _ h => h) (by rfl) hSa ?_
           try simp only [Act.put, sA, sB, sC]
           refine wpAnyS_skip (i := 15) rfl (by kernel_rfl) (fun _ _ _ h => h) (by rfl) hSa ?_
           try simp only [Act.put, sA, sB, sC]
           refine tk 16 hSa ?_
           try simp only [Act.put, sA, sB, sC]
           refine wpAnyS_last (i := 17) rfl (by kernel_rfl) (by decide) (by kernel_rfl) (by rfl) fun K hK => ?_
           go_simp
           refine hK.out _ _ ?_
           clear hK K
           have HFR := Lib.hid (KeptF.fr hSa)
           clear hSa k3 k5 y0 y1 y2 y3 y4 y5 y6 y7 y8 y9 y10 y11 y12
           go_wp2_with fail
           go_meet
           case rel => exact ⟨false, (by first | rfl | simp_all), by simp_all, HFR.out⟩
          ·have d1 : decide (col < 0) = true := decide_eq_true q1
           have k3 := KeptF.cell y3
           have k5 := KeptF.cell y5
           go_wp2_with fail
           refine wp_region_sink 17 (KeptF w7) (by kernel_rfl) ?_
           have hSa : KeptF w7 w7.drew := KeptF.start _
           refine tk 0 hSa ?_
           try simp only [Act.put, sA, sB, sC]
           refine on1 1 fun K hK => ?_
           go_simp
           refine (Hbc.out _).mono ?_
           rintro e wq ⟨rfl, rfl⟩
           refine hK.out _ _ hSa ?_
           clear hK K
           try simp only [Act.put, sA, sB, sC]
           refine tk 2 hSa ?_
           refine tk 3 hSa ?_
           try simp only [Act.put, sA, sB, sC]
           refine tk 4 hSa ?_ (hy := by intro _ w; have ck5 := k5 _ w; go_simp <;> with_reducible rfl)
           try simp only [Act.put, sA, sB, sC]
           refine tk 5 hSa ?_
           refine tk 6 hSa ?_
           try simp only [Act.put, sA, sB, sC]
           refine wpAnyS_skip (i := 7) rfl (by kernel_rfl) (fun _ _ _ h => h) (by rfl) hSa ?_
           try simp only [Act.put, sA, sB, sC]
           refine wpAnyS_skip (i := 8) rfl (by kernel_rfl) (fun _ _ _ h => h) (by rfl) hSa ?_
           try simp only [Act.put, sA, sB, sC]
           refine wpAnyS_skip (i := 9) rfl (by kernel_rfl) (fun _ _ _ h => h) (by rfl) hSa ?_
           try simp only [Act.put, sA, sB, sC]
           refine wpAnyS_skip (i := 10) rfl (by kernel_rfl) (fun _ _ _ h => h) (by rfl) hSa ?_
           try simp only [Act.put, sA, sB, sC]
           refine wpAnyS_skip (i := 11) rfl (by kernel_rfl) (fun _ _ _ h => h) (by rfl) hSa ?_
           try simp only [Act.put, sA, sB, sC]
           refine wpAnyS_skip (i := 12) rfl (by kernel_rfl) (fun _ _ _ h => h) (by rfl) hSa ?_
           try simp only [Act.put, sA, sB, sC]
           refine wpAnyS_skip (i := 13) rfl (by kernel_rfl) (fun _ _ _ h => h) (by rfl) hSa ?_
           try simp only [Act.put, sA, sB, sC]
           refine wpAnyS_skip (i := 14) rfl (by kernel_rfl) (fun _ _ _ h => h) (by rfl) hSa ?_
           try simp only [Act.put, sA, sB, sC]
           refine tk 15 hSa ?_
           refine tk 16 hSa ?_
           try simp only [Act.put, sA, sB, sC]
           refine wpAnyS_last (i := 17) rfl (by kernel_rfl) (by decide) (by kernel_rfl) (by rfl) fun K hK => ?_
           go_simp
           refine hK.out _ _ ?_
           clear hK K
           have HFR := Lib.hid (KeptF.fr hSa)
           clear hSa k3 k5 y0 y1 y2 y3 y4 y5 y6 y7 y8 y9 y10 y11 y12
           go_wp2_with fail
           go_meet
           case rel => exact ⟨true, (by first | rfl | simp_all), by simp_all, HFR.out⟩
          ·obtain ⟨hq0, hq1⟩ := HTAB.out rfl
           obtain ⟨tm, htm⟩ : ∃ tm : Nat, tab = (tm : Int) := ⟨tab.toNat, by omega⟩
           obtain ⟨tb, toff, tcap, htv, htc⟩ := HT7.out.form (by omega)
           simp only [Value.slice.injEq, true_and] at htv
           obtain ⟨rfl, rfl⟩ := htv
           have hxx := List.getElem?_eq_getElem (show tab.toNat < TB.length by omega)
           have HXD : Hid (TB.getD tab.toNat 0 = TB[tab.toNat]'(by omega)) := Lib.hid (by rw [List.getD_eq_getElem?_getD, hxx]; rfl)
           rw [HXD.out] at q2
           generalize TB[tab.toNat]'(by omega) = x at hxx HXD q2
           have kx := KeptF.cell (htc tab.toNat x hxx)
           have hge : 0 ≤ tab := hq0
           have hlt : tab < (TB.length : Int) := hq1
           clear htc hxx hq0 hq1 htm
           have d1 : decide (col < 0) = false := decide_eq_false q1
           have d2 : decide (x ≤ col) = true := decide_eq_true q2
           have Q2 := Lib.hid q2
           clear q2
           have k3 := KeptF.cell y3
           have k5 := KeptF.cell y5
           go_wp2_with fail
           refine wp_region_sink 17 (KeptF w7) (by kernel_rfl) ?_
           have hSa : KeptF w7 w7.drew := KeptF.start _
           refine tk 0 hSa ?_
           try simp only [Act.put, sA, sB, sC]
           refine on1 1 fun K hK => ?_
           go_simp
           refine (Hbc.out _).mono ?_
           rintro e wq ⟨rfl, rfl⟩
           refine hK.out _ _ hSa ?_
           clear hK K
           try simp only [Act.put, sA, sB, sC]
           refine tk 2 hSa ?_
           refine tk 3 hSa ?_
           try simp only [Act.put, sA, sB, sC]
           refine tk 4 hSa ?_ (hy := by intro _ w; have ck5 := k5 _ w; go_simp <;> with_reducible rfl)
           try simp only [Act.put, sA, sB, sC]
           refine tk 5 hSa ?_
           refine tk 6 hSa ?_
           refine tk 7 hSa ?_
           try simp only [Act.put, sA, sB, sC]
           refine tk 8 hSa ?_ (hy := by intro _ w; have ck5 := k5 _ w; go_simp <;> with_reducible rfl)
           try simp only [Act.put, sA, sB, sC]
           refine tk 9 hSa ?_
           refine tk 10 hSa ?_
           try simp only [Act.put, sA, sB, sC]
           refine tk 11 hSa ?_ (hy := by intro _ w; have ck3 := k3 _ w; go_simp <;> with_reducible rfl)
           try simp only [Act.put, sA, sB, sC]
           refine tk 12 hSa ?_
           try simp only [Act.put, sA, sB, sC]
           refine tk 13 hSa ?_ (hy := by intro _ w; have ckx := kx _ w; go_simp <;> with_reducible rfl)
           try simp only [Act.put, sA, sB, sC]
           refine tk 14 hSa ?_
           refine tk 15 hSa ?_
           refine tk 16 hSa ?_
           try simp only [Act.put, sA, sB, sC]
           refine wpAnyS_last (i := 17) rfl (by kernel_rfl) (by decide) (by kernel_rfl) (by rfl) fun K hK => ?_
           go_simp
           refine hK.out _ _ ?_
           clear hK K
           have HFR := Lib.hid (KeptF.fr hSa)
           clear hSa k3 k5 y0 y1 y2 y3 y4 y5 y6 y7 y8 y9 y10 y11 y12
           go_wp2_with fail
           go_meet
           case rel => exact ⟨true, (by first | rfl | simp_all), by have q2 := Q2.out; have e := HXD.out; rw [e]; simp_all, HFR.out⟩
          ·obtain ⟨hq0, hq1⟩ := HTAB.out rfl
           obtain ⟨tm, htm⟩ : ∃ tm : Nat, tab = (tm : Int) := ⟨tab.toNat, by omega⟩
           obtain ⟨tb, toff, tcap, htv, htc⟩ := HT7.out.form (by omega)
           simp only [Value.slice.injEq, true_and] at htv
           obtain ⟨rfl, rfl⟩ := htv
           have hxx := List.getElem?_eq_getElem (show tab.toNat < TB.length by omega)
           have HXD : Hid (TB.getD tab.toNat 0 = TB[tab.toNat]'(by omega)) := Lib.hid (by rw [List.getD_eq_getElem?_getD, hxx]; rfl)
           rw [HXD.out] at q2
           generalize TB[tab.toNat]'(by omega) = x at hxx HXD q2
           have kx := KeptF.cell (htc tab.toNat x hxx)
           have hge : 0 ≤ tab := hq0
           have hlt : tab < (TB.length : Int) := hq1
           clear htc hxx hq0 hq1 htm
           have d1 : decide (col < 0) = false := decide_eq_false q1
           have d2 : decide (x ≤ col) = false := decide_eq_false q2
           have Q2 := Lib.hid q2
           clear q2
           have k3 := KeptF.cell y3
           have k5 := KeptF.cell y5
           go_wp2_with fail
           refine wp_region_sink 17 (KeptF w7) (by kernel_rfl) ?_
           have hSa : KeptF w7 w7.drew := KeptF.start _
           refine tk 0 hSa ?_
           try simp only [Act.put, sA, sB, sC]
           refine on1 1 fun K hK => ?_
           go_simp
           refine (Hbc.out _).mono ?_
           rintro e wq ⟨rfl, rfl⟩
           refine hK.out _ _ hSa ?_
           clear hK K
           try simp only [Act.put, sA, sB, sC]
           refine tk 2 hSa ?_
           refine tk 3 hSa ?_
           try simp only [Act.put, sA, sB, sC]
           refine tk 4 hSa ?_ (hy := by intro _ w; have ck5 := k5 _ w; go_simp <;> with_reducible rfl)
           try simp only [Act.put, sA, sB, sC]
           refine tk 5 hSa ?_
           refine tk 6 hSa ?_
           refine tk 7 hSa ?_
           try simp only [Act.put, sA, sB, sC]
           refine tk 8 hSa ?_ (hy := by intro _ w; have ck5 := k5 _ w; go_simp <;> with_reducible rfl)
           try simp only [Act.put, sA, sB, sC]
           refine tk 9 hSa ?_
           refine tk 10 hSa ?_
           try simp only [Act.put, sA, sB, sC]
           refine tk 11 hSa ?_ (hy := by intro _ w; have ck3 := k3 _ w; go_simp <;> with_reducible rfl)
           try simp only [Act.put, sA, sB, sC]
           refine tk 12 hSa ?_
           try simp only [Act.put, sA, sB, sC]
           refine tk 13 hSa ?_ (hy := by intro _ w; have ckx := kx _ w; go_simp <;> with_reducible rfl)
           try simp only [Act.put, sA, sB, sC]
           refine tk 14 hSa ?_
           refine tk 15 hSa ?_
           refine tk 16 hSa ?_
           try simp only [Act.put, sA, sB, sC]
           refine wpAnyS_last (i := 17) rfl (by kernel_rfl) (by decide) (by kernel_rfl) (by rfl) fun K hK => ?_
           go_simp
           refine hK.out _ _ ?_
           clear hK K
           have HFR := Lib.hid (KeptF.fr hSa)
           clear hSa k3 k5 y0 y1 y2 y3 y4 y5 y6 y7 y8 y9 y10 y11 y12
           go_wp2_with fail
           go_meet
           case rel => exact ⟨false, (by first | rfl | simp_all), by have q2 := Q2.out; have e := HXD.out; rw [e]; simp_all, HFR.out⟩
         case rest =>
          obtain ⟨b, rfl, hb, hfc⟩ := hcut
          obtain ⟨w11, rfl⟩ : ∃ w5 : World, w5 = wc := ⟨_, rfl⟩
          have HB11 := Lib.hid (HB7.out.fr hfc fun h => h)
          have HF11 := Lib.hid (HF7.out.trans0 hfc)
          have HKT11 := Lib.hid (HKT7.out.fr0 hfc)
          have HVT11 := Lib.hid (HVT7.out.fr0 hfc)
          have HT11 := Lib.hid (HT7.out.fr0 hfc)
          clear hfc y0 y1 y2 y3 y4 y5 y6 y7 y8 y9 y10 y11 y12
          have y0 : w11.cell? ⟨w.heap.size, 0, none⟩ = some (.int .u8 op) := HB11.out.cell 0
          have y1 : w11.cell? ⟨w.heap.size, 1, none⟩ = some (.int .i64 node) := HB11.out.cell 1
          have y2 : w11.cell? ⟨w.heap.size, 2, none⟩ = some (.int .u8 mode) := HB11.out.cell 2
          have y3 : w11.cell? ⟨w.heap.size, 3, none⟩ = some (.int .i64 tab) := HB11.out.cell 3
          have y4 : w11.cell? ⟨w.heap.size, 4, none⟩ = some (.bool row) := HB11.out.cell 4
          have y5 : w11.cell? ⟨w.heap.size, 5, none⟩ = some (.int .i64 col) := HB11.out.cell 5
          have y6 : w11.cell? ⟨w.heap.size, 6, none⟩ = some (.int .i64 var) := HB11.out.cell 6
          have y7 : w11.cell? ⟨w.heap.size, 7, none⟩ = some (.int .i64 dst) := HB11.out.cell 7
          have y8 : w11.cell? ⟨w.heap.size, 8, none⟩ = some (.bool eq) := HB11.out.cell 8
          have y9 : w11.cell? ⟨w.heap.size, 9, none⟩ = some (.int .i64 fro) := HB11.out.cell 9
          have y10 : w11.cell? ⟨w.heap.size, 10, none⟩ = some (.int .i64 upto) := HB11.out.cell 10
          have y11 : w11.cell? ⟨w.heap.size, 11, none⟩ = some (.slice ka key.length kc) := HB11.out.cell 11
          have y12 : w11.cell? ⟨w.heap.size, 12, none⟩ = some (.slice va vals.length vc) := HB11.out.cell 12
          cases b
          rotate_left
          ·have HQ := Lib.hid (hb.1 rfl)
           clear hb y0 y1 y2 y3 y4 y5 y6 y7 y8 y9 y10 y11 y12
           go_wp2_with fail
           go_ret
           exact ⟨false, rfl, ⟨(fun h => by cases h), fun h => absurd HQ.out (HNOT.out h).2.2.2.2.2.2.2.1⟩, HF11.out⟩
          have HC8 := Lib.hid (show ¬ (bc = true ∧ (col < 0 ∨ TB.getD tab.toNat 0 ≤ col)) from fun q => Bool.noConfusion (hb.2 q))
          clear hb
          go_upto_region 16 with (fail)
          go_cut [115] from 133 to 140 (fun v wx => ∃ b : Bool, v = .bool b ∧ (b = true ↔ bc = false ∧ col ≠ 0) ∧ w11 = wx)
          case first =>
           rcases (show (bc = true) ∨ (bc = false ∧ col = 0) ∨ (bc = false ∧ col ≠ 0) by cases bc <;> simp <;> omega) with rfl | ⟨rfl, q1⟩ | ⟨rfl, q1⟩
           ·go_wp2_with fail
            refine (Hbc.out _).mono ?_
            rintro e wq ⟨rfl, rfl⟩
            go_wp2_with fail
            go_meet
            case rel => exact ⟨false, (by first | rfl | simp_all), by simp_all, rfl⟩
           ·have d1 : (col != 0) = false := by rw [bne_eq_false_iff_eq]; exact q1
            have Q1 := Lib.hid q1
            clear q1
            go_wp2_with fail
            refine (Hbc.out _).mono ?_
            rintro e wq ⟨rfl, rfl⟩
            go_wp2_with fail
            go_meet
            case rel => exact ⟨false, (by first | rfl | simp_all), by have q1 := Q1.out; simp_all, rfl⟩
           ·have d1 : (col != 0) = true := by rw [bne_iff_ne]; exact q1
            go_wp2_with fail
            refine (Hbc.out _).mono ?_
            rintro e wq ⟨rfl, rfl⟩
            go_wp2_with fail
            go_meet
            case rel => exact ⟨true, (by first | rfl | simp_all), by simp_all, rfl⟩
          case rest =>
           obtain ⟨b, rfl, hb, rfl⟩ := hcut
           cases b
           rotate_left
           ·have HQ := Lib.hid (hb.1 rfl)
            clear hb y0 y1 y2 y3 y4 y5 y6 y7 y8 y9 y10 y11 y12
            go_wp2_with fail
            go_ret
            exact ⟨false, rfl, ⟨(fun h => by cases h), fun h => absurd HQ.out (HNOT.out h).2.2.2.2.2.2.2.2.1⟩, HF11.out⟩
           have HC9 := Lib.hid (show ¬ (bc = false ∧ col ≠ 0) from fun q => Bool.noConfusion (hb.2 q))
           clear hb
           go_upto_region 18 with (fail)
           go_cut [141] from 142 to 154 (fun v wx => ∃ b : Bool, v = .bool b ∧ (b = true ↔ bv = true ∧ (var < 0 ∨ (nv : Int) ≤ var)) ∧ w11 = wx)
           case first =>
            rcases (show (bv = false) ∨ (bv = true ∧ var < 0) ∨ (bv = true ∧ ¬ var < 0 ∧ (nv : Int) ≤ var) ∨ (bv = true ∧ ¬ var < 0 ∧ ¬ (nv : Int) ≤ var) by cases bv <;> simp <;> omega) with rfl | ⟨rfl, q1⟩ | ⟨rfl, q1, q2⟩ | ⟨rfl, q1, q2⟩
            ·go_wp2_with fail
             refine (Hbv.out _).mono ?_
             rintro e wq ⟨rfl, rfl⟩
             go_wp2_with fail
             go_meet
             case rel => exact ⟨false, (by first | rfl | simp_all), by simp_all, rfl⟩
            ·go_wp2_with fail
             refine (Hbv.out _).mono ?_
             rintro e wq ⟨rfl, rfl⟩
             go_wp2_with fail
             go_meet
             case rel => exact ⟨true, (by first | rfl | simp_all), by simp_all, rfl⟩
            ·go_wp2_with fail
             refine (Hbv.out _).mono ?_
             rintro e wq ⟨rfl, rfl⟩
             go_wp2_with fail
             go_meet
             case rel => exact ⟨true, (by first | rfl | simp_all), by simp_all, rfl⟩
            ·go_wp2_with fail
             refine (Hbv.out _).mono ?_
             rintro e wq ⟨rfl, rfl⟩
             go_wp2_with fail
             go_meet
             case rel => exact ⟨false, (by first | rfl | simp_all), by simp_all, rfl⟩
           case rest =>
            obtain ⟨b, rfl, hb, rfl⟩ := hcut
            cases b
            rotate_left
            ·have HQ := Lib.hid (hb.1 rfl)
             clear hb y0 y1 y2 y3 y4 y5 y6 y7 y8 y9 y10 y11 y12
             go_wp2_with fail
             go_ret
             exact ⟨false, rfl, ⟨(fun h => by cases h), fun h => absurd HQ.out (HNOT.out h).2.2.2.2.2.2.2.2.2.1⟩, HF11.out⟩
            have HC10 := Lib.hid (show ¬ (bv = true ∧ (var < 0 ∨ (nv : Int) ≤ var)) from fun q => Bool.noConfusion (hb.2 q))
            clear hb
            go_upto_region 19 with (fail)
            go_cut [141] from 155 to 162 (fun v wx => ∃ b : Bool, v = .bool b ∧ (b = true ↔ bv = false ∧ var ≠ 0) ∧ w11 = wx)
            case first =>
             rcases (show (bv = true) ∨ (bv = false ∧ var = 0) ∨ (bv = false ∧ var ≠ 0) by cases bv <;> simp <;> omega) with rfl | ⟨rfl, q1⟩ | ⟨rfl, q1⟩
             ·go_wp2_with fail
              refine (Hbv.out _).mono ?_
              rintro e wq ⟨rfl, rfl⟩
              go_wp2_with fail
              go_meet
              case rel => exact ⟨false, (by first | rfl | simp_all), by simp_all, rfl⟩
             ·have d1 : (var != 0) = false := by rw [bne_eq_false_iff_eq]; exact q1
              have Q1 := Lib.hid q1
              clear q1
              go_wp2_with fail
              refine (Hbv.out _).mono ?_
              rintro e wq ⟨rfl, rfl⟩
              go_wp2_with fail
              go_meet
              case rel => exact ⟨false, (by first | rfl | simp_all), by have q1 := Q1.out; simp_all, rfl⟩
             ·have d1 : (var != 0) = true := by rw [bne_iff_ne]; exact q1
              go_wp2_with fail
              refine (Hbv.out _).mono ?_
              rintro e wq ⟨rfl, rfl⟩
              go_wp2_with fail
              go_meet
              case rel => exact ⟨true, (by first | rfl | simp_all), by simp_all, rfl⟩
            case rest =>
             obtain ⟨b, rfl, hb, rfl⟩ := hcut
             cases b
             rotate_left
             ·have HQ := Lib.hid (hb.1 rfl)
              clear hb y0 y1 y2 y3 y4 y5 y6 y7 y8 y9 y10 y11 y12
              go_wp2_with fail
              go_ret
              exact ⟨false, rfl, ⟨(fun h => by cases h), fun h => absurd HQ.out (HNOT.out h).2.2.2.2.2.2.2.2.2.2.1⟩, HF11.out⟩
             have HC11 := Lib.hid (show ¬ (bv = false ∧ var ≠ 0) from fun q => Bool.noConfusion (hb.2 q))
             clear hb
             go_upto_region 21 with (fail)
             go_cut [163] from 164 to 176 (fun v wx => ∃ b : Bool, v = .bool b ∧ (b = true ↔ bo = true ∧ (dst < 0 ∨ (size : Int) ≤ dst)) ∧ w11 = wx)
             case first =>
              rcases (show (bo = false) ∨ (bo = true ∧ dst < 0) ∨ (bo = true ∧ ¬ dst < 0 ∧ (size : Int) ≤ dst) ∨ (bo = true ∧ ¬ dst < 0 ∧ ¬ (size : Int) ≤ dst) by cases bo <;> simp <;> omega) with rfl | ⟨rfl, q1⟩ | ⟨rfl, q1, q2⟩ | ⟨rfl, q1, q2⟩
              ·go_wp2_with fail
               refine (Hbo.out _).mono ?_
               rintro e wq ⟨rfl, rfl⟩
               go_wp2_with fail
               go_meet
               case rel => exact ⟨false, (by first | rfl | simp_all), by simp_all, rfl⟩
              ·go_wp2_with fail
               refine (Hbo.out _).mono ?_
               rintro e wq ⟨rfl, rfl⟩
               go_wp2_with fail
               go_meet
               case rel => exact ⟨true, (by first | rfl | simp_all), by simp_all, rfl⟩
              ·go_wp2_with fail
               refine (Hbo.out _).mono ?_
               rintro e wq ⟨rfl, rfl⟩
               go_wp2_with fail
               go_meet
               case rel => exact ⟨true, (by first | rfl | simp_all), by simp_all, rfl⟩
              ·go_wp2_with fail
               refine (Hbo.out _).mono ?_
               rintro e wq ⟨rfl, rfl⟩
               go_wp2_with fail
               go_meet
               case rel => exact ⟨false, (by first | rfl | simp_all), by simp_all, rfl⟩
             case rest =>
              obtain ⟨b, rfl, hb, rfl⟩ := hcut
              cases b
              rotate_left
              ·have HQ := Lib.hid (hb.1 rfl)
               clear hb y0 y1 y2 y3 y4 y5 y6 y7 y8 y9 y10 y11 y12
               go_wp2_with fail
               go_ret
               exact ⟨false, rfl, ⟨(fun h => by cases h), fun h => absurd HQ.out (HNOT.out h).2.2.2.2.2.2.2.2.2.2.2.1⟩, HF11.out⟩
              have HC12 := Lib.hid (show ¬ (bo = true ∧ (dst < 0 ∨ (size : Int) ≤ dst)) from fun q => Bool.noConfusion (hb.2 q))
              clear hb
              go_upto_region 22 with (fail)
              go_cut [163] from 177 to 184 (fun v wx => ∃ b : Bool, v = .bool b ∧ (b = true ↔ bo = false ∧ dst ≠ 0) ∧ w11 = wx)
              case first =>
               rcases (show (bo = true) ∨ (bo = false ∧ dst = 0) ∨ (bo = false ∧ dst ≠ 0) by cases bo <;> simp <;> omega) with rfl | ⟨rfl, q1⟩ | ⟨rfl, q1⟩
               ·go_wp2_with fail
                refine (Hbo.out _).mono ?_
                rintro e wq ⟨rfl, rfl⟩
                go_wp2_with fail
                go_meet
                case rel => exact ⟨false, (by first | rfl | simp_all), by simp_all, rfl⟩
               ·have d1 : (dst != 0) = false := by rw [bne_eq_false_iff_eq]; exact q1
                have Q1 := Lib.hid q1
                clear q1
                go_wp2_with fail
                refine (Hbo.out _).mono ?_
                rintro e wq ⟨rfl, rfl⟩
                go_wp2_with fail
                go_meet
                case rel => exact ⟨false, (by first | rfl | simp_all), by have q1 := Q1.out; simp_all, rfl⟩
               ·have d1 : (dst != 0) = true := by rw [bne_iff_ne]; exact q1
                go_wp2_with fail
                refine (Hbo.out _).mono ?_
                rintro e wq ⟨rfl, rfl⟩
                go_wp2_with fail
                go_meet
                case rel => exact ⟨true, (by first | rfl | simp_all), by simp_all, rfl⟩
              case rest =>
               obtain ⟨b, rfl, hb, rfl⟩ := hcut
               cases b
               rotate_left
               ·have HQ := Lib.hid (hb.1 rfl)
                clear hb y0 y1 y2 y3 y4 y5 y6 y7 y8 y9 y10 y11 y12
                go_wp2_with fail
                go_ret
                exact ⟨false, rfl, ⟨(fun h => by cases h), fun h => absurd HQ.out (HNOT.out h).2.2.2.2.2.2.2.2.2.2.2.2.1⟩, HF11.out⟩
               have HC13 := Lib.hid (show ¬ (bo = false ∧ dst ≠ 0) from fun q => Bool.noConfusion (hb.2 q))
               clear hb
               go_upto_region 24 with (fail)
               go_cut [185] from 186 to 192 (fun v wx => ∃ b : Bool, v = .bool b ∧ (b = true ↔ be = false ∧ eq = true) ∧ w11 = wx)
               case first =>
                rcases (show (be = true) ∨ (be = false ∧ eq = true) ∨ (be = false ∧ eq = false) by cases be <;> cases eq <;> simp) with rfl | ⟨rfl, rfl⟩ | ⟨rfl, rfl⟩
                ·go_wp2_with fail
                 refine (Hbe.out _).mono ?_
                 rintro e wq ⟨rfl, rfl⟩
                 go_wp2_with fail
                 go_meet
                 case rel => exact ⟨false, (by first | rfl | simp_all), by simp_all, rfl⟩
                ·go_wp2_with fail
                 refine (Hbe.out _).mono ?_
                 rintro e wq ⟨rfl, rfl⟩
                 go_wp2_with fail
                 go_meet
                 case rel => exact ⟨true, (by first | rfl | simp_all), by simp_all, rfl⟩
                ·go_wp2_with fail
                 refine (Hbe.out _).mono ?_
                 rintro e wq ⟨rfl, rfl⟩
                 go_wp2_with fail
                 go_meet
                 case rel => exact ⟨false, (by first | rfl | simp_all), by simp_all, rfl⟩
               case rest =>
                obtain ⟨b, rfl, hb, rfl⟩ := hcut
                cases b
                rotate_left
                ·have HQ := Lib.hid (hb.1 rfl)
                 clear hb y0 y1 y2 y3 y4 y5 y6 y7 y8 y9 y10 y11 y12
                 go_wp2_with fail
                 go_ret
                 exact ⟨false, rfl, ⟨(fun h => by cases h), fun h => absurd HQ.out (HNOT.out h).2.2.2.2.2.2.2.2.2.2.2.2.2.1⟩, HF11.out⟩
                have HC14 := Lib.hid (show ¬ (be = false ∧ eq = true) from fun q => Bool.noConfusion (hb.2 q))
                clear hb
                go_upto_region 25 with (fail)
                go_cut [185] from 193 to 200 (fun v wx => ∃ b : Bool, v = .bool b ∧ (b = true ↔ bf = false ∧ fro ≠ 0) ∧ w11 = wx)
                case first =>
                 rcases (show (bf = true) ∨ (bf = false ∧ fro = 0) ∨ (bf = false ∧ fro ≠ 0) by cases bf <;> simp <;> omega) with rfl | ⟨rfl, q1⟩ | ⟨rfl, q1⟩
                 ·go_wp2_with fail
                  refine (Hbf.out _).mono ?_
                  rintro e wq ⟨rfl, rfl⟩
                  go_wp2_with fail
                  go_meet
                  case rel => exact ⟨false, (by first | rfl | simp_all), by simp_all, rfl⟩
                 ·have d1 : (fro != 0) = false := by rw [bne_eq_false_iff_eq]; exact q1
                  have Q1 := Lib.hid q1
                  clear q1
                  go_wp2_with fail
                  refine (Hbf.out _).mono ?_
                  rintro e wq ⟨rfl, rfl⟩
                  go_wp2_with fail
                  go_meet
                  case rel => exact ⟨false, (by first | rfl | simp_all), by have q1 := Q1.out; simp_all, rfl⟩
                 ·have d1 : (fro != 0) = true := by rw [bne_iff_ne]; exact q1
                  go_wp2_with fail
                  refine (Hbf.out _).mono ?_
                  rintro e wq ⟨rfl, rfl⟩
                  go_wp2_with fail
                  go_meet
                  case rel => exact ⟨true, (by first | rfl | simp_all), by simp_all, rfl⟩
                case rest =>
                 obtain ⟨b, rfl, hb, rfl⟩ := hcut
                 cases b
                 rotate_left
                 ·have HQ := Lib.hid (hb.1 rfl)
                  clear hb y0 y1 y2 y3 y4 y5 y6 y7 y8 y9 y10 y11 y12
                  go_wp2_with fail
                  go_ret
                  exact ⟨false, rfl, ⟨(fun h => by cases h), fun h => absurd HQ.out (HNOT.out h).2.2.2.2.2.2.2.2.2.2.2.2.2.2.1⟩, HF11.out⟩
                 have HC15 := Lib.hid (show ¬ (bf = false ∧ fro ≠ 0) from fun q => Bool.noConfusion (hb.2 q))
                 clear hb
                 go_upto_region 26 with (fail)
                 go_cut [185] from 201 to 208 (fun v wx => ∃ b : Bool, v = .bool b ∧ (b = true ↔ bu = false ∧ upto ≠ 0) ∧ w11 = wx)
                 case first =>
                  rcases (show (bu = true) ∨ (bu = false ∧ upto = 0) ∨ (bu = false ∧ upto ≠ 0) by cases bu <;> simp <;> omega) with rfl | ⟨rfl, q1⟩ | ⟨rfl, q1⟩
                  ·go_wp2_with fail
                   refine (Hbu.out _).mono ?_
                   rintro e wq ⟨rfl, rfl⟩
                   go_wp2_with fail
                   go_meet
                   case rel => exact ⟨false, (by first | rfl | simp_all), by simp_all, rfl⟩
                  ·have d1 : (upto != 0) = false := by rw [bne_eq_false_iff_eq]; exact q1
                   have Q1 := Lib.hid q1
                   clear q1
                   go_wp2_with fail
                   refine (Hbu.out _).mono ?_
                   rintro e wq ⟨rfl, rfl⟩
                   go_wp2_with fail
                   go_meet
                   case rel => exact ⟨false, (by first | rfl | simp_all), by have q1 := Q1.out; simp_all, rfl⟩
                  ·have d1 : (upto != 0) = true := by rw [bne_iff_ne]; exact q1
                   go_wp2_with fail
                   refine (Hbu.out _).mono ?_
                   rintro e wq ⟨rfl, rfl⟩
                   go_wp2_with fail
                   go_meet
                   case rel => exact ⟨true, (by first | rfl | simp_all), by simp_all, rfl⟩
                 case rest =>
                  obtain ⟨b, rfl, hb, rfl⟩ := hcut
                  cases b
                  rotate_left
                  ·have HQ := Lib.hid (hb.1 rfl)
                   clear hb y0 y1 y2 y3 y4 y5 y6 y7 y8 y9 y10 y11 y12
                   go_wp2_with fail
                   go_ret
                   exact ⟨false, rfl, ⟨(fun h => by cases h), fun h => absurd HQ.out (HNOT.out h).2.2.2.2.2.2.2.2.2.2.2.2.2.2.2.1⟩, HF11.out⟩
                  have HC16 := Lib.hid (show ¬ (bu = false ∧ upto ≠ 0) from fun q => Bool.noConfusion (hb.2 q))
                  clear hb
                  have hop2 := HLP.out.hop
                  have hww : (b1 = true ∧ b2 = false ∧ bn = false) ∨ (b1 = false ∧ b2 = true ∧ bn = false) ∨ (b1 = false ∧ b2 = false ∧ bn = true) ∨ (b1 = false ∧ b2 = false ∧ bn = false) := by
                   have h1 := HLP.out.lb1
                   have h2 := HLP.out.lb2
                   have h3 := HLP.out.lbn
                   cases b1 <;> cases b2 <;> cases bn <;> simp at h1 h2 h3 ⊢ <;> omega
                  clear hop2
                  rcases hww with ⟨ha, hb2, hc⟩ | ⟨ha, hb2, hc⟩ | ⟨ha, hb2, hc⟩ | ⟨ha, hb2, hc⟩
                  ·subst ha
                   subst hb2
                   subst hc
                   have HW : Hid (wantN TB ⟨op, node, mode, tab, row, col, var, dst, eq, fro, upto, key, vals⟩ = 1) := Lib.hid (by unfold wantN; simp only; rw [if_pos]; have := HLP.out.lb1.1 rfl; omega)
                   go_wp2_with fail
                   refine (Hb1.out _).mono ?_
                   rintro e wq ⟨rfl, rfl⟩
                   go_wp2_with fail
                   refine (Hb2.out _).mono ?_
                   rintro e wq ⟨rfl, rfl⟩
                   go_wp2_with fail
                   refine (Hbn.out _).mono ?_
                   rintro e wq ⟨rfl, rfl⟩
                   go_wp2_with fail
                   refine (dvals_any ⟨op, node, mode, tab, row, col, var, dst, eq, fro, upto, key, vals⟩ _ _ _ nv _ HKT11.out HVT11.out HFV.out hn).mono ?_
                   rintro e wq ⟨he, hfq⟩
                   rw [← HW.out] at he
                   obtain ⟨vb, hvb⟩ : ∃ vb, vb = valsB ⟨op, node, mode, tab, row, col, var, dst, eq, fro, upto, key, vals⟩ (wantN TB ⟨op, node, mode, tab, row, col, var, dst, eq, fro, upto, key, vals⟩) nv := ⟨_, rfl⟩
                   rw [← hvb] at he
                   have HV := Lib.hid hvb
                   have HFQ := Lib.hid (HF11.out.trans0 hfq)
                   subst he
                   clear hfq hvb y0 y1 y2 y3 y4 y5 y6 y7 y8 y9 y10 y11 y12
                   go_wp2_with fail
                   go_ret
                   exact ⟨vb, rfl, ⟨fun h => done_yes HLP.out HKB.out HC1.out HC2.out HC3.out HC4.out HC5.out HC6.out HC7.out HC8.out HC9.out HC10.out HC11.out HC12.out HC13.out HC14.out HC15.out HC16.out (by rw [← HV.out]; exact h), fun h => by rw [HV.out]; exact (HNOT.out h).2.2.2.2.2.2.2.2.2.2.2.2.2.2.2.2⟩, HFQ.out⟩
                  ·subst ha
                   subst hb2
                   subst hc
                   have HW : Hid (wantN TB ⟨op, node, mode, tab, row, col, var, dst, eq, fro, upto, key, vals⟩ = 2) := Lib.hid (by unfold wantN; simp only; have h9 := HLP.out.lb2.1 rfl; rw [if_neg (by omega), if_pos (by omega)])
                   go_wp2_with fail
                   refine (Hb1.out _).mono ?_
                   rintro e wq ⟨rfl, rfl⟩
                   go_wp2_with fail
                   refine (Hb2.out _).mono ?_
                   rintro e wq ⟨rfl, rfl⟩
                   go_wp2_with fail
                   refine (Hbn.out _).mono ?_
                   rintro e wq ⟨rfl, rfl⟩
                   go_wp2_with fail
                   refine (dvals_any ⟨op, node, mode, tab, row, col, var, dst, eq, fro, upto, key, vals⟩ _ _ _ nv _ HKT11.out HVT11.out HFV.out hn).mono ?_
                   rintro e wq ⟨he, hfq⟩
                   rw [← HW.out] at he
                   obtain ⟨vb, hvb⟩ : ∃ vb, vb = valsB ⟨op, node, mode, tab, row, col, var, dst, eq, fro, upto, key, vals⟩ (wantN TB ⟨op, node, mode, tab, row, col, var, dst, eq, fro, upto, key, vals⟩) nv := ⟨_, rfl⟩
                   rw [← hvb] at he
                   have HV := Lib.hid hvb
                   have HFQ := Lib.hid (HF11.out.trans0 hfq)
                   subst he
                   clear hfq hvb y0 y1 y2 y3 y4 y5 y6 y7 y8 y9 y10 y11 y12
                   go_wp2_with fail
                   go_ret
                   exact ⟨vb, rfl, ⟨fun h => done_yes HLP.out HKB.out HC1.out HC2.out HC3.out HC4.out HC5.out HC6.out HC7.out HC8.out HC9.out HC10.out HC11.out HC12.out HC13.out HC14.out HC15.out HC16.out (by rw [← HV.out]; exact h), fun h => by rw [HV.out]; exact (HNOT.out h).2.2.2.2.2.2.2.2.2.2.2.2.2.2.2.2⟩, HFQ.out⟩
                  ·subst ha
                   subst hb2
                   subst hc
                   obtain ⟨hq0, hq1⟩ : 0 ≤ tab ∧ tab < TB.length := by have h1 := HLP.out.lbn.1 rfl; have h3 := HLP.out.lbt.2 (by omega); have h4 : ¬ (tab < 0 ∨ (TB.length : Int) ≤ tab) := fun q => HC1.out ⟨h3, q⟩; omega
                   obtain ⟨tb, toff, tcap, htv, htc⟩ := HT11.out.form (by omega)
                   simp only [Value.slice.injEq, true_and] at htv
                   obtain ⟨rfl, rfl⟩ := htv
                   have hxx := List.getElem?_eq_getElem (show tab.toNat < TB.length by omega)
                   have HXD : Hid (TB.getD tab.toNat 0 = TB[tab.toNat]'(by omega)) := Lib.hid (by rw [List.getD_eq_getElem?_getD, hxx]; rfl)
                   generalize TB[tab.toNat]'(by omega) = x at hxx HXD
                   have kx := htc tab.toNat x hxx
                   clear htc hxx
                   have HW : Hid (wantN TB ⟨op, node, mode, tab, row, col, var, dst, eq, fro, upto, key, vals⟩ = x) := Lib.hid (by unfold wantN; simp only; have h9 := HLP.out.lbn.1 rfl; rw [if_neg (by omega), if_neg (by omega), if_pos (by omega)]; exact HXD.out)
                   go_wp2_with fail
                   refine (Hb1.out _).mono ?_
                   rintro e wq ⟨rfl, rfl⟩
                   go_wp2_with fail
                   refine (Hb2.out _).mono ?_
                   rintro e wq ⟨rfl, rfl⟩
                   go_wp2_with fail
                   refine (Hbn.out _).mono ?_
                   rintro e wq ⟨rfl, rfl⟩
                   go_wp2_with fail
                   refine (dvals_any ⟨op, node, mode, tab, row, col, var, dst, eq, fro, upto, key, vals⟩ _ _ _ nv _ HKT11.out HVT11.out HFV.out hn).mono ?_
                   rintro e wq ⟨he, hfq⟩
                   rw [← HW.out] at he
                   obtain ⟨vb, hvb⟩ : ∃ vb, vb = valsB ⟨op, node, mode, tab, row, col, var, dst, eq, fro, upto, key, vals⟩ (wantN TB ⟨op, node, mode, tab, row, col, var, dst, eq, fro, upto, key, vals⟩) nv := ⟨_, rfl⟩
                   rw [← hvb] at he
                   have HV := Lib.hid hvb
                   have HFQ := Lib.hid (HF11.out.trans0 hfq)
                   subst he
                   clear hfq hvb kx y0 y1 y2 y3 y4 y5 y6 y7 y8 y9 y10 y11 y12
                   go_wp2_with fail
                   go_ret
                   exact ⟨vb, rfl, ⟨fun h => done_yes HLP.out HKB.out HC1.out HC2.out HC3.out HC4.out HC5.out HC6.out HC7.out HC8.out HC9.out HC10.out HC11.out HC12.out HC13.out HC14.out HC15.out HC16.out (by rw [← HV.out]; exact h), fun h => by rw [HV.out]; exact (HNOT.out h).2.2.2.2.2.2.2.2.2.2.2.2.2.2.2.2⟩, HFQ.out⟩
                  ·subst ha
                   subst hb2
                   subst hc
                   have HW : Hid (wantN TB ⟨op, node, mode, tab, row, col, var, dst, eq, fro, upto, key, vals⟩ = 0) := Lib.hid (by unfold wantN; simp only; have h1 := (letP_false HLP.out.lb1).1 rfl; have h2 := (letP_false HLP.out.lb2).1 rfl; have h3 := (letP_false HLP.out.lbn).1 rfl; rw [if_neg (by omega), if_neg (by omega), if_neg (by omega)])
                   go_wp2_with fail
                   refine (Hb1.out _).mono ?_
                   rintro e wq ⟨rfl, rfl⟩
                   go_wp2_with fail
                   refine (Hb2.out _).mono ?_
                   rintro e wq ⟨rfl, rfl⟩
                   go_wp2_with fail
                   refine (Hbn.out _).mono ?_
                   rintro e wq ⟨rfl, rfl⟩
                   go_wp2_with fail
                   refine (dvals_any ⟨op, node, mode, tab, row, col, var, dst, eq, fro, upto, key, vals⟩ _ _ _ nv _ HKT11.out HVT11.out HFV.out hn).mono ?_
                   rintro e wq ⟨he, hfq⟩
                   rw [← HW.out] at he
                   obtain ⟨vb, hvb⟩ : ∃ vb, vb = valsB ⟨op, node, mode, tab, row, col, var, dst, eq, fro, upto, key, vals⟩ (wantN TB ⟨op, node, mode, tab, row, col, var, dst, eq, fro, upto, key, vals⟩) nv := ⟨_, rfl⟩
                   rw [← hvb] at he
                   have HV := Lib.hid hvb
                   have HFQ := Lib.hid (HF11.out.trans0 hfq)
                   subst he
                   clear hfq hvb y0 y1 y2 y3 y4 y5 y6 y7 y8 y9 y10 y11 y12
                   go_wp2_with fail
                   go_ret
                   exact ⟨vb, rfl, ⟨fun h => done_yes HLP.out HKB.out HC1.out HC2.out HC3.out HC4.out HC5.out HC6.out HC7.out HC8.out HC9.out HC10.out HC11.out HC12.out HC13.out HC14.out HC15.out HC16.out (by rw [← HV.out]; exact h), fun h => by rw [HV.out]; exact (HNOT.out h).2.2.2.2.2.2.2.2.2.2.2.2.2.2.2.2⟩, HFQ.out⟩
end Go.Proofs.YtgpekgnhbccnoaaGreat
namespace Go.Proofs.YtgpekgnhbccnoaaGreat
open Go Go.RowKit

theorem part_none (op : Int) (h : op = 0 ∨ 16 < op) : partB op = ⟨#[]⟩ := by
 unfold partB
 repeat rw [if_neg (by omega)]
set_option maxRecDepth 100000 in
set_option maxHeartbeats 1000000 in
theorem part_all (op : Int) (w : World) (h : 0 ≤ op ∧ op < 256) :
  Calls Tryz.prog 87 #[.int .u8 op] w fun e w' => e = .returned (.string (partB op)) ∧ Fr w w' Nil := by
 by_cases h1 : 1 ≤ op ∧ op ≤ 16
 ·exact part_any op w h1
 ·rw [part_none op (by omega)]
  rcases (show op = 0 ∨ 16 < op by omega) with rfl | h2
  ·go_enter Tryz.func87, Tryz.ntmps87
   go_wp2_with fail
   go_ret
   exact ⟨rfl, (Fr.refl w Nil).alloc _⟩
  ·clear h1
   go_enter Tryz.func87, Tryz.ntmps87
   go_wp2_with fail
   go_ret
   exact ⟨rfl, Fr.refl w Nil⟩
theorem partB_size (op : Int) (h : 0 ≤ op) : (partB op).size ≤ 1000 := by
 by_cases h1 : 1 ≤ op ∧ op ≤ 16
 ·exact partB_len h1
 ·rw [part_none op (by omega)]; decide
theorem part_goes (op : Int) (h : 0 ≤ op) : hasP (partB op) 111 = decide (10 ≤ op ∧ op ≤ 13) := by
 by_cases h1 : 1 ≤ op ∧ op ≤ 16
 ·rw [part_o h1]
  exact decide_eq_decide.2 (by omega)
 ·rw [part_none op (by omega)]
  rw [decide_eq_false (by omega)]
  rfl
/-- What is asked of one at a place. -/
structure PlaceP (TB : List Int) (nv : Nat) (L : List InstrD) (i : Nat) (n : InstrD) : Prop where
 one : OneP TB nv L.length n
 last : n.op = 16 ↔ i + 1 = L.length
 jump : n.op = 15 → ∀ (k : Nat) (m : InstrD), L[k]? = some m → 10 ≤ m.op ∧ m.op ≤ 13 → ¬ (k < i ∧ (i : Int) < m.dst) ∧ ¬ (i < k ∧ m.dst ≤ (i : Int))
def PlacesP (TB : List Int) (nv : Nat) (L : List InstrD) (i : Nat) : Prop := ∀ (j : Nat) (n : InstrD), j < i → L[j]? = some n → PlaceP TB nv L j n
theorem PlacesP.zero (TB : List Int) (nv : Nat) (L : List InstrD) : PlacesP TB nv L 0 := fun j n h => by omega
theorem PlacesP.succ {TB : List Int} {nv : Nat} {L : List InstrD} {i : Nat} {n : InstrD} (h : PlacesP TB nv L i) (hn : L[i]? = some n) (hp : PlaceP TB nv L i n) : PlacesP TB nv L (i + 1) := fun j m hj hm => by
 by_cases e : j = i
 ·subst e; rw [hn] at hm; cases hm; exact hp
 ·exact h j m (by omega) hm
theorem PlacesP.right {TB : List Int} {nv : Nat} {L : List InstrD} (h : PlacesP TB nv L L.length) (hl : 0 < L.length) : RightP TB nv L where
 ne := hl
 pos := by omega
 one i n hn := by
  have hp := h i n (List.getElem?_eq_some_iff.1 hn).1 hn
  exact ⟨by rw [Int.toNat_natCast]; exact hp.one, hp.last⟩
 jump k i m n hk hi hm hn := (h i n (List.getElem?_eq_some_iff.1 hi).1 hi).jump hn k m hk hm
theorem RightP.place {TB : List Int} {nv : Nat} {L : List InstrD} (h : RightP TB nv L) {i : Nat} {n : InstrD} (hn : L[i]? = some n) : PlaceP TB nv L i n where
 one := by have := (h.one i n hn).1; rwa [Int.toNat_natCast] at this
 last := (h.one i n hn).2
 jump hq k m hk hm := h.jump k i m n hk hn hm hq
def DRightRet (TB : List Int) (nv : Int) (L : List InstrD) (w : World) (e : Ending) (w' : World) : Prop := ∃ b : Bool, e = .returned (.bool b) ∧ (b = true ↔ RightP TB nv L) ∧ Fr w w' Nil
section
variable (lv tv : Value) (TB : List Int) (L : List InstrD) (w : World)
set_option maxRecDepth 100000 in
set_option maxHeartbeats 1000000 in
theorem dright_not (nv : Int) (h : CodeAt w lv L) (hq : L.length = 0 ∨ nv < 0) : Calls Tryz.prog 41 #[lv, tv, .int .i64 nv] w (DRightRet TB nv L w) := by
 obtain ⟨la, lc, rfl⟩ := h.shape
 have HN : Hid (¬ RightP TB nv L) := Lib.hid fun h => by have := h.ne; have := h.pos; omega
 clear h
 obtain ⟨m, hm⟩ : ∃ m, m = L.length := ⟨_, rfl⟩
 rw [← hm] at hq ⊢
 clear hm
 by_cases h0 : m = 0
 ·subst h0
  clear hq
  go_enter Tryz.func41, Tryz.ntmps41
  go_wp2_with fail
  go_ret
  exact ⟨false, rfl, ⟨(fun h => by cases h), fun h => absurd h HN.out⟩, Fr.refl w Nil⟩
 ·have h1 : nv < 0 := by omega
  have d1 : ((m : Int) == 0) = false := by rw [beq_eq_false_iff_ne]; omega
  clear hq h0
  go_enter Tryz.func41, Tryz.ntmps41
  go_wp2_with fail
  go_ret
  exact ⟨false, rfl, ⟨(fun h => by cases h), fun h => absurd h HN.out⟩, Fr.refl w Nil⟩
theorem COp {L : List InstrD} (h : ∀ n ∈ L, 0 ≤ n.op ∧ n.op < 256) {i : Nat} {n : InstrD} (hn : L[i]? = some n) : 0 ≤ n.op ∧ n.op < 256 := h n (List.mem_of_getElem? hn)
/-- No jump of the first k is wrong for a piece at i. -/
def JumpsP (L : List InstrD) (i k : Nat) : Prop := ∀ (j : Nat) (m : InstrD), j < k → L[j]? = some m → 10 ≤ m.op ∧ m.op ≤ 13 → ¬ (j < i ∧ (i : Int) < m.dst) ∧ ¬ (i < j ∧ m.dst ≤ (i : Int))
theorem JumpsP.succ {L : List InstrD} {i k : Nat} {m : InstrD} (h : JumpsP L i k) (hm : L[k]? = some m) (hq : 10 ≤ m.op ∧ m.op ≤ 13 → ¬ (k < i ∧ (i : Int) < m.dst) ∧ ¬ (i < k ∧ m.dst ≤ (i : Int))) : JumpsP L i (k + 1) := fun j m' hj hm' => by
 by_cases e : j = k
 ·subst e; rw [hm] at hm'; cases hm'; exact hq
 ·exact h j m' (by omega) hm'
set_option maxRecDepth 100000 in
set_option maxHeartbeats 16000000 in
theorem dright_main (nv : Nat) (h : CodeAt w lv L) (hop : ∀ n ∈ L, 0 ≤ n.op ∧ n.op < 256) (ht : IntsAt w tv TB) (hf : FewC L) (hTB : TB.length ≤ 100000) (hn : nv ≤ 1000000) (hl : 0 < L.length) : Calls Tryz.prog 41 #[lv, tv, .int .i64 nv] w (DRightRet TB nv L w) := by
 obtain ⟨la, lc, rfl⟩ := h.shape
 obtain ⟨ta, tc, rfl⟩ := ht.shape
 have H := Lib.hid h
 have HT := Lib.hid ht
 have HOP := Lib.hid hop
 have HFC := Lib.hid hf
 have hLl := hf.1
 have d0 : ((L.length : Int) == 0) = false := by rw [beq_eq_false_iff_ne]; omega
 have d1 : ¬ (nv : Int) < 0 := by omega
 clear h ht hop hf
 go_enter Tryz.func41, Tryz.ntmps41
 go_wp2_with fail
 clear d0 d1
 go_loopw [7] (fun vi wr => ∃ i : Nat, i ≤ L.length ∧ vi = .int .i64 i ∧ PlacesP TB nv L i ∧ Fr w wr Nil) (fun vi _ => L.length - (intOf vi).toNat)
 case atStart => exact ⟨0, by omega, rfl, PlacesP.zero TB nv L, Fr.refl w Nil⟩
 case round =>
  obtain ⟨i, hi, rfl, hpl, hfr⟩ := hrel
  have HPL := Lib.hid hpl
  have HF := Lib.hid hfr
  obtain ⟨wo, rfl⟩ : ∃ wo : World, wo = wr := ⟨_, rfl⟩
  clear hpl hfr
  by_cases hlt : i < L.length
  ·obtain ⟨b, off, cap, hlv, hlc⟩ := (H.out.fr0 HF.out).form (by omega)
   simp only [Value.slice.injEq, true_and] at hlv
   obtain ⟨rfl, rfl⟩ := hlv
   have hx := List.getElem?_eq_getElem hlt
   have HX := Lib.hid hx
   generalize L[i] = n at hx HX
   have hnop := COp HOP.out hx
   obtain ⟨ka, kc, va, vc, hkt, hvt, p0, p1, p2, p3, p4, p5, p6, p7, p8, p9, p10, p11, p12⟩ := (hlc i n hx).cell
   have hfw := HFC.out.2 n (List.mem_of_getElem? hx)
   have HONE := Lib.hid (done_any n _ _ _ TB nv L.length wo hkt hvt hfw.2 hfw.1 (HT.out.fr0 HF.out) hTB hn)
   have hii : (i : Int) < (L.length : Int) := by omega
   obtain ⟨op, node, mode, tab, row, col, var, dst, eq, fro, upto, key, vals⟩ := n
   simp only at p0 p1 p2 p3 p4 p5 p6 p7 p8 p9 p10 p11 p12 hnop HONE
   have HP0 := Lib.hid p0
   clear hx hlc hkt hvt hfw
   go_wp2_with fail
   refine HONE.out.mono ?_
   rintro e w2 ⟨b1, rfl, hb1, hf2⟩
   have HB1 := Lib.hid hb1
   have HF2 := Lib.hid (HF.out.trans0 hf2)
   have q0 := hf2.cell HP0.out fun h => h
   clear hb1 hf2 HONE p0 p1 p2 p3 p4 p5 p6 p7 p8 p9 p10 p11 p12
   cases b1
   ·have HNO : Hid (¬ RightP TB nv L) := Lib.hid fun h => Bool.noConfusion (HB1.out.2 (h.place HX.out).one)
    go_wp2_with fail
    go_ret
    exact ⟨false, rfl, ⟨(fun h => by cases h), fun h => absurd h HNO.out⟩, HF2.out⟩
   have HONE1 := Lib.hid (HB1.out.1 rfl)
   clear HB1
   by_cases hlast : op = 16 ↔ i + 1 = L.length
   rotate_left
   ·have HNO : Hid (¬ RightP TB nv L) := Lib.hid fun h => hlast (h.place HX.out).last
    have h2 : (op = 16 ∧ ¬ i + 1 = L.length) ∨ (op ≠ 16 ∧ i + 1 = L.length) := by omega
    clear hlast
    rcases h2 with ⟨ha, hb⟩ | ⟨ha, hb⟩
    ·have d1 : (op == 16) = true := by rw [beq_iff_eq]; exact ha
     have d2 : ((i : Int) == (L.length : Int) - 1) = false := by rw [beq_eq_false_iff_ne]; omega
     clear ha hb
     go_wp2_with fail
     go_ret
     exact ⟨false, rfl, ⟨(fun h => by cases h), fun h => absurd h HNO.out⟩, HF2.out⟩
    ·have d1 : (op == 16) = false := by rw [beq_eq_false_iff_ne]; exact ha
     have d2 : ((i : Int) == (L.length : Int) - 1) = true := by rw [beq_iff_eq]; omega
     clear ha hb
     go_wp2_with fail
     go_ret
     exact ⟨false, rfl, ⟨(fun h => by cases h), fun h => absurd h HNO.out⟩, HF2.out⟩
   have HLAST := Lib.hid hlast
   obtain ⟨bl, hbl⟩ : ∃ bl, bl = (op == 16) := ⟨_, rfl⟩
   have d1 : (op == 16) = bl := hbl.symm
   have d2 : ((i : Int) == (L.length : Int) - 1) = bl := by
    rw [hbl]
    by_cases ha : op = 16
    ·rw [show (op == 16) = true by rw [beq_iff_eq]; exact ha, beq_iff_eq]
     have := hlast.1 ha
     omega
    ·rw [show (op == 16) = false by rw [beq_eq_false_iff_ne]; exact ha, beq_eq_false_iff_ne]
     have := fun h => ha (hlast.2 h)
     intro e
     exact this (by omega)
   clear hlast hbl
   go_wp2_with fail
   clear d1 d2
   have hnf := HF2.out
   go_loopw [8] (fun vk wr => ∃ k : Nat, k ≤ L.length ∧ vk = .int .i64 k ∧ (op = 15 → JumpsP L i k) ∧ Fr w wr Nil) (fun vk _ => L.length - (intOf vk).toNat)
   case atStart => exact ⟨0, by omega, rfl, (fun _ j m hj => by omega), HF2.out⟩
   case round =>
    clear hnf q0
    obtain ⟨k, hk, rfl, hj, hfr⟩ := hrel
    have HJ := Lib.hid hj
    have HFr := Lib.hid hfr
    obtain ⟨wq, rfl⟩ : ∃ wq : World, wq = wr := ⟨_, rfl⟩
    clear hj hfr
    obtain ⟨b2, off2, cap2, hlv, hlc⟩ := (H.out.fr0 HFr.out).form (by omega)
    simp only [Value.slice.injEq, true_and] at hlv
    obtain ⟨e1, e2⟩ := hlv
    simp only [Option.some.injEq, Addr.mk.injEq, and_true] at e1
    obtain ⟨rfl, rfl⟩ := e1
    clear e2
    obtain ⟨ja, jc, jva, jvc, _, _, y0, _⟩ := (hlc i _ HX.out).cell
    simp only at y0
    by_cases hend : k < L.length ∧ op = 15
    ·obtain ⟨hkl, h15⟩ := hend
     have hxk := List.getElem?_eq_getElem hkl
     have HXK := Lib.hid hxk
     generalize L[k] = m at hxk HXK
     have hmop := COp HOP.out hxk
     obtain ⟨za, zc, zva, zvc, _, _, z0, _, _, _, _, _, _, z7, _⟩ := (hlc k m hxk).cell
     obtain ⟨mop, mnode, mmode, mtab, mrow, mcol, mvar, mdst, meq, mfro, mupto, mkey, mvals⟩ := m
     simp only at z0 z7 hmop
     have hkk : (k : Int) < (L.length : Int) := by omega
     have d15 : (op == 15) = true := by rw [beq_iff_eq]; exact h15
     have HZ7 := Lib.hid z7
     have HJ15 := Lib.hid (HJ.out h15)
     have H15 := Lib.hid h15
     clear hlc hxk h15 z7
     go_wp2_with fail
     refine (part_all mop _ hmop).mono ?_
     rintro e w4 ⟨rfl, hf4⟩
     have HF4 := Lib.hid (HFr.out.trans0 hf4)
     have x7 := hf4.cell HZ7.out fun h => h
     obtain ⟨go, hgo⟩ : ∃ g, g = hasP (partB mop) 111 := ⟨_, rfl⟩
     have HHG : Hid (Calls Tryz.prog 86 #[.string (partB mop), .int .u8 111] w4 fun e w' => e = .returned (.bool go) ∧ w4 = w') := Lib.hid (by have h9 := has_anyD (partB mop) 111 w4 (partB_size mop hmop.1); rw [← hgo] at h9; exact h9)
     have HGO : Hid (go = true ↔ 10 ≤ mop ∧ mop ≤ 13) := Lib.hid (by rw [hgo, part_goes mop hmop.1, decide_eq_true_eq])
     obtain ⟨s, hs⟩ : ∃ s, s = partB mop := ⟨_, rfl⟩
     rw [← hs] at HHG ⊢
     clear hgo hs hf4 z0 y0 d15
     go_wp2_with fail
     refine HHG.out.mono ?_
     rintro e w5 ⟨rfl, rfl⟩
     rcases (show go = false ∨ (go = true ∧ k < i ∧ (i : Int) < mdst) ∨ (go = true ∧ k < i ∧ ¬ (i : Int) < mdst) ∨ (go = true ∧ ¬ k < i ∧ i < k ∧ mdst ≤ (i : Int)) ∨ (go = true ∧ ¬ k < i ∧ i < k ∧ ¬ mdst ≤ (i : Int)) ∨ (go = true ∧ ¬ k < i ∧ ¬ i < k) by cases go <;> simp <;> omega) with rfl | ⟨rfl, ga, gb⟩ | ⟨rfl, ga, gb⟩ | ⟨rfl, ga, gb, gc⟩ | ⟨rfl, ga, gb, gc⟩ | ⟨rfl, ga, gb⟩
     ·have HJ2 := Lib.hid (HJ15.out.succ HXK.out fun q => absurd (HGO.out.2 q) Bool.noConfusion)
      go_wp2_with fail
      go_roundw
      case rel => exact ⟨k + 1, by omega, by go_num, fun _ => HJ2.out, HF4.out⟩
      case measure => simp [intOf]; omega
     ·have HNO : Hid (¬ RightP TB nv L) := Lib.hid fun h => ((h.place HX.out).jump H15.out k _ HXK.out (HGO.out.1 rfl)).1 ⟨ga, gb⟩
      have gai : (k : Int) < (i : Int) := by omega
      go_wp2_with fail
      go_ret
      exact ⟨false, rfl, ⟨(fun h => by cases h), fun h => absurd h HNO.out⟩, HF4.out⟩
     ·have HJ2 := Lib.hid (HJ15.out.succ HXK.out fun _ => by simp only; omega)
      have dgm : decide ((i : Int) < mdst) = false := decide_eq_false gb
      have gai : (k : Int) < (i : Int) := by omega
      have gab : ¬ (i : Int) < (k : Int) := by omega
      have dgb2 : decide (i < k) = false := decide_eq_false (by omega)
      go_wp2_with fail
      go_roundw
      case rel => exact ⟨k + 1, by omega, by go_num, fun _ => HJ2.out, HF4.out⟩
      case measure => simp [intOf]; omega
     ·have HNO : Hid (¬ RightP TB nv L) := Lib.hid fun h => ((h.place HX.out).jump H15.out k _ HXK.out (HGO.out.1 rfl)).2 ⟨gb, gc⟩
      have gai : ¬ (k : Int) < (i : Int) := by omega
      have dga : decide (k < i) = false := decide_eq_false ga
      have gab : (i : Int) < (k : Int) := by omega
      go_wp2_with fail
      go_ret
      exact ⟨false, rfl, ⟨(fun h => by cases h), fun h => absurd h HNO.out⟩, HF4.out⟩
     ·have HJ2 := Lib.hid (HJ15.out.succ HXK.out fun _ => by simp only; omega)
      have dgm : decide (mdst ≤ (i : Int)) = false := decide_eq_false gc
      have gai : ¬ (k : Int) < (i : Int) := by omega
      have dga : decide (k < i) = false := decide_eq_false ga
      have gab : (i : Int) < (k : Int) := by omega
      go_wp2_with fail
      go_roundw
      case rel => exact ⟨k + 1, by omega, by go_num, fun _ => HJ2.out, HF4.out⟩
      case measure => simp [intOf]; omega
     ·have HJ2 := Lib.hid (HJ15.out.succ HXK.out fun _ => by simp only; omega)
      have gai : ¬ (k : Int) < (i : Int) := by omega
      have dga : decide (k < i) = false := decide_eq_false ga
      have gab : ¬ (i : Int) < (k : Int) := by omega
      have dgb2 : decide (i < k) = false := decide_eq_false (by omega)
      go_wp2_with fail
      go_roundw
      case rel => exact ⟨k + 1, by omega, by go_num, fun _ => HJ2.out, HF4.out⟩
      case measure => simp [intOf]; omega
    ·have HPL2 : Hid (PlacesP TB nv L (i + 1)) := Lib.hid (HPL.out.succ HX.out ⟨HONE1.out, HLAST.out, fun q j m hm hq => HJ.out q j m (by
      have h1 := (List.getElem?_eq_some_iff.1 hm).1
      have q' : op = 15 := q
      omega) hm hq⟩)
     rcases (show ¬ (k : Int) < (L.length : Int) ∨ ((k : Int) < (L.length : Int) ∧ op ≠ 15) by omega) with h8 | ⟨h8, h9⟩
     ·clear hend hlc y0
      go_wp2_with fail
      go_roundw
      case rel => exact ⟨i + 1, by omega, by go_num, HPL2.out, HFr.out⟩
      case measure => simp [intOf]; omega
     ·have d15 : (op == 15) = false := by rw [beq_eq_false_iff_ne]; exact h9
      clear hend hlc h9
      go_wp2_with fail
      go_roundw
      case rel => exact ⟨i + 1, by omega, by go_num, HPL2.out, HFr.out⟩
      case measure => simp [intOf]; omega
  ·obtain rfl : i = L.length := by omega
   go_wp2_with fail
   go_ret
   exact ⟨true, rfl, ⟨fun _ => HPL.out.right hl, fun _ => rfl⟩, HF.out⟩
theorem dright_any (nv : Int) (h : CodeAt w lv L) (hop : ∀ n ∈ L, 0 ≤ n.op ∧ n.op < 256) (ht : IntsAt w tv TB) (hf : FewC L) (hTB : TB.length ≤ 100000) (hn : nv ≤ 1000000) : Calls Tryz.prog 41 #[lv, tv, .int .i64 nv] w (DRightRet TB nv L w) := by
 by_cases hq : L.length = 0 ∨ nv < 0
 ·exact dright_not lv tv TB L w nv h hq
 ·obtain ⟨m, rfl⟩ : ∃ m : Nat, nv = (m : Int) := ⟨nv.toNat, by omega⟩
  exact dright_main lv tv TB L w m h hop ht hf hTB (by omega) (by omega)
end
end Go.Proofs.YtgpekgnhbccnoaaGreat
