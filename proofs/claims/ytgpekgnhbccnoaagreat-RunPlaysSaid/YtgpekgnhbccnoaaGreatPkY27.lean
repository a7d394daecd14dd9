/-
 Walks of what the instructions do: read, set, put, remove, scan, let, emit.
 No condition but sizes.
 Walk of on: where an instruction goes on.
 No condition but sizes.
 Walk of few: are there few instructions, terms, tables, variables, arguments?
 No condition.
 Rows that grow by append, each entry of which is read out of new blocks; no program in sight.
 No condition.
-/
import Derived.Test.YtgpekgnhbccnoaaGreatPkY23
import Derived.Test.YtgpekgnhbccnoaaGreatPkY26
import Derived.Test.YtgpekgnhbccnoaaGreatPkY6
import Derived.Test.YtgpekgnhbccnoaaGreatPkY18
namespace Go.Proofs.YtgpekgnhbccnoaaGreat
open Go Go.RowKit
attribute [local go_sem ↓] Go.wp_at_zero Go.wp_at_succ

/-- What a value's place holds. -/
theorem ValsAt.get {w : World} {va : Option Addr} {vc : Nat} {l : List (List TermD)} (h : ValsAt w (.slice va l.length vc) l) (t : Nat) (ht : t < l.length) : ∃ b off xa xc, va = some ⟨b, off, none⟩ ∧ w.cell? ⟨b, off + t, none⟩ = some (.slice xa (l.getD t []).length xc) ∧ TermsAt w (.slice xa (l.getD t []).length xc) (l.getD t []) := by
 obtain ⟨b, off, cap, hv, hc⟩ := h.form (by omega)
 simp only [Value.slice.injEq, true_and] at hv
 obtain ⟨tv, h1, h2⟩ := hc t _ (List.getElem?_eq_getElem ht)
 obtain ⟨xa, xc, rfl⟩ := h2.shape
 have e : l.getD t [] = l[t] := by rw [List.getD_eq_getElem?_getD, List.getElem?_eq_getElem ht]; rfl
 rw [e]
 exact ⟨b, off, xa, xc, hv.1, h1, h2⟩
theorem Lies.box {w0 W : World} {l : List Thing} {q : StV} (h : Lies w0 W l) (i : Nat) (hi : l[i]? = some (stT q)) (m : Nat) (hm : m < q.vars.length) : ∃ vb vcap, q.vv = .slice (some ⟨vb, 0, none⟩) q.vars.length vcap ∧ W.cell? ⟨q.sb, 3, none⟩ = some (.slice (some ⟨vb, 0, none⟩) q.vars.length vcap) ∧
  W.cell? ⟨vb, m, none⟩ = some (.int .i64 (q.vars.getD m 0)) ∧ W.frozen? ⟨vb, m, none⟩ = false ∧ ∀ x, Lies w0 (W.setCell ⟨vb, m, none⟩ (.int .i64 x)) (l.set i (stT { q with vars := q.vars.set m x })) := by
 obtain ⟨h1, h2, _⟩ := h.st i hi
 obtain ⟨vb, vcap, hv, _⟩ := h2.form (by omega)
 have h3 := h2
 rw [hv] at h3
 refine ⟨vb, vcap, hv, ?_, h3.cell rfl m hm, h3.free rfl m, fun x => h.stVar i hi hv rfl m x⟩
 rw [← hv]
 exact h1.cell 3
/-- What is read of a row. -/
def readK (M : List MTab) (t k c : Int) : Int := match mget (mtab M t) k with
 | some cols => cols.getD c.toNat 0
 | none => 0
theorem readK_some {M : List MTab} {t k c : Int} {xs : List Int} (h : mget (mtab M t) k = some xs) : readK M t k c = xs.getD c.toNat 0 := by unfold readK; rw [h]
theorem readK_none {M : List MTab} {t k c : Int} (h : mget (mtab M t) k = none) : readK M t k c = 0 := by unfold readK; rw [h]
theorem own_base {w : World} {B : Nat} {e : TypeId} {size n : Nat} {v : Value} {xs : List Value} (h : w.ownsRow 0 e size v n xs) (hB : ∀ k, v.ownBlock = some k → B ≤ k) : w.ownsRow B e size v n xs := by
 refine ⟨h.1, ?_⟩
 rcases h.2 with hn | ⟨g, cap, cur, rfl, hb, hg, r⟩
 ·exact .inl hn
 ·exact .inr ⟨g, cap, cur, rfl, hB g rfl, hg, r⟩
section
variable {w0 W : World} {l : List Thing} {q : StV} {M : List MTab} {rb : Nat}
set_option maxRecDepth 100000 in
set_option maxHeartbeats 4000000 in
theorem remove_any (h : Lies w0 W l) (i j : Nat) (hi : l[i]? = some (stT q)) (hj : l[j]? = some (rowsT rb M)) (hij : i ≠ j) (n : InstrD) (kv vv : Value) (kx : Int) (hkt : TermsAt W kv n.key) (hvt : ValsAt W vv n.vals) (hfv : FewT n.vals) (hvl : q.vars.length ≤ 100000) (hg : Good M) :
  Calls Tryz.prog 53 #[.pointer (some ⟨q.sb, 0, none⟩), n.val kv vv, .int .i64 kx, rptr rb] W fun e W' => e = .returned (.tuple #[]) ∧ Lies w0 W' (l.set j (rowsT rb (mdel M n.tab kx).1)) := by
 obtain ⟨op, node, mode, tab, row, col, var, dst, eq, fro, upto, key, vals⟩ := n
 simp only at hkt hvt hfv ⊢
 obtain ⟨ka, kc, rfl⟩ := hkt.shape
 obtain ⟨va, vc, rfl⟩ := hvt.shape
 simp only [InstrD.val]
 obtain ⟨w1, hw1⟩ : ∃ w1, w1 = W.alloc (.cells #[.int .u8 op, .int .i64 node, .int .u8 mode, .int .i64 tab, .bool row, .int .i64 col, .int .i64 var, .int .i64 dst, .bool eq, .int .i64 fro, .int .i64 upto, .slice ka key.length kc, .slice va vals.length vc] 81) := ⟨_, rfl⟩
 have HF1 : Hid (Fr W w1 Nil) := by rw [hw1]; exact Lib.hid ((Fr.refl W Nil).alloc _)
 have HB1 : Hid (Bk w1 W.heap.size 81 #[.int .u8 op, .int .i64 node, .int .u8 mode, .int .i64 tab, .bool row, .int .i64 col, .int .i64 var, .int .i64 dst, .bool eq, .int .i64 fro, .int .i64 upto, .slice ka key.length kc, .slice va vals.length vc].toList) := by rw [hw1]; exact Lib.hid (Bk.new W _ _)
 have HL1 := Lib.hid (h.fr0 HF1.out)
 have HVT := Lib.hid (hvt.fr0 HF1.out)
 have HI := Lib.hid hi
 have HJ := Lib.hid hj
 have HG := Lib.hid hg
 have HFV := Lib.hid hfv
 have HVL := Lib.hid hvl
 have HW1 := Lib.hid hw1
 have HVB : Hid (∀ k, q.vv.ownBlock = some k → k < W.heap.size) := Lib.hid (h.st i hi).2.1.lt
 have HJ' : Hid (∀ x, (l.set i x)[j]? = some (rowsT rb M)) := fun x => by rw [List.getElem?_set_ne hij]; exact HJ.out
 clear h hkt hvt hi hj hg hfv hw1
 have n3 := HB1.out.cell 3
 simp only [List.getElem?_cons_zero, List.getElem?_cons_succ] at n3
 go_enter Tryz.func53, Tryz.ntmps53
 go_wp2_with fail
 rw [← HW1.out]
 refine (st_del HL1.out j HJ.out tab kx HG.out).mono ?_
 rintro e w2 ⟨rfl, h⟩
 have HL2 := Lib.hid h
 clear h n3
 go_wp2_with fail
 go_end0
 exact ⟨rfl, HL2.out⟩
set_option maxRecDepth 100000 in
set_option maxHeartbeats 4000000 in
theorem set_any' (h : Lies w0 W l) (i j : Nat) (hi : l[i]? = some (stT q)) (hj : l[j]? = some (rowsT rb M)) (hij : i ≠ j) (n : InstrD) (kv vv : Value) (kx : Int) (hkt : TermsAt W kv n.key) (hvt : ValsAt W vv n.vals) (hfv : FewT n.vals) (hvl : q.vars.length ≤ 100000) (hg : Good M) (h1 : 0 < n.vals.length) :
  Calls Tryz.prog 51 #[.pointer (some ⟨q.sb, 0, none⟩), n.val kv vv, .int .i64 kx, rptr rb] W fun e W' => e = .returned (.tuple #[]) ∧ Lies w0 W' (l.set j (rowsT rb (mset M n.tab kx n.col (valP q.vars (n.vals.getD 0 []))).1)) := by
 obtain ⟨op, node, mode, tab, row, col, var, dst, eq, fro, upto, key, vals⟩ := n
 simp only at hkt hvt hfv h1 ⊢
 obtain ⟨ka, kc, rfl⟩ := hkt.shape
 obtain ⟨va, vc, rfl⟩ := hvt.shape
 simp only [InstrD.val]
 obtain ⟨w1, hw1⟩ : ∃ w1, w1 = W.alloc (.cells #[.int .u8 op, .int .i64 node, .int .u8 mode, .int .i64 tab, .bool row, .int .i64 col, .int .i64 var, .int .i64 dst, .bool eq, .int .i64 fro, .int .i64 upto, .slice ka key.length kc, .slice va vals.length vc] 81) := ⟨_, rfl⟩
 have HF1 : Hid (Fr W w1 Nil) := by rw [hw1]; exact Lib.hid ((Fr.refl W Nil).alloc _)
 have HB1 : Hid (Bk w1 W.heap.size 81 #[.int .u8 op, .int .i64 node, .int .u8 mode, .int .i64 tab, .bool row, .int .i64 col, .int .i64 var, .int .i64 dst, .bool eq, .int .i64 fro, .int .i64 upto, .slice ka key.length kc, .slice va vals.length vc].toList) := by rw [hw1]; exact Lib.hid (Bk.new W _ _)
 have HL1 := Lib.hid (h.fr0 HF1.out)
 have HVT := Lib.hid (hvt.fr0 HF1.out)
 have HI := Lib.hid hi
 have HJ := Lib.hid hj
 have HG := Lib.hid hg
 have HFV := Lib.hid hfv
 have HVL := Lib.hid hvl
 have HW1 := Lib.hid hw1
 have HVB : Hid (∀ k, q.vv.ownBlock = some k → k < W.heap.size) := Lib.hid (h.st i hi).2.1.lt
 have HJ' : Hid (∀ x, (l.set i x)[j]? = some (rowsT rb M)) := fun x => by rw [List.getElem?_set_ne hij]; exact HJ.out
 clear h hkt hvt hi hj hg hfv hw1
 obtain ⟨xb, xoff, xa, xc, rfl, hx0, hxt⟩ := HVT.out.get 0 h1
 have hxl : (vals.getD 0 []).length ≤ 100000 := by
  rw [List.getD_eq_getElem?_getD, List.getElem?_eq_getElem h1]
  exact HFV.out.2 _ (List.getElem_mem h1)
 have HXT := Lib.hid hxt
 simp only [Nat.add_zero] at hx0
 have kx0 := KeptF.cell hx0
 generalize vals.getD 0 [] = x at *
 have k3 := KeptF.cell (w0 := w1) (show w1.cell? ⟨W.heap.size, 3, none⟩ = some _ from HB1.out.cell 3)
 have k5 := KeptF.cell (w0 := w1) (show w1.cell? ⟨W.heap.size, 5, none⟩ = some _ from HB1.out.cell 5)
 have k12 := KeptF.cell (w0 := w1) (show w1.cell? ⟨W.heap.size, 12, none⟩ = some _ from HB1.out.cell 12)
 clear hx0 hxt
 go_enter Tryz.func51, Tryz.ntmps51
 go_wp2_with fail
 rw [← HW1.out]
 refine wp_region_sink 12 (KeptF w1) (by kernel_rfl) ?_
 have hSa : KeptF w1 w1.drew := KeptF.start _
 refine tk 0 hSa ?_
 refine tk 1 hSa ?_
 try simp only [Act.put, sA, sB, sC]
 refine tk 2 hSa ?_ (hy := by intro _ w; have ck3 := k3 _ w; go_simp <;> with_reducible rfl)
 try simp only [Act.put, sA, sB, sC]
 refine tk 3 hSa ?_
 refine tk 4 hSa ?_
 try simp only [Act.put, sA, sB, sC]
 refine tk 5 hSa ?_ (hy := by intro _ w; have ck5 := k5 _ w; go_simp <;> with_reducible rfl)
 try simp only [Act.put, sA, sB, sC]
 refine tk 6 hSa ?_
 refine tk 7 hSa ?_
 try simp only [Act.put, sA, sB, sC]
 refine tk 8 hSa ?_ (hy := by intro _ w; have ck12 := k12 _ w; go_simp <;> with_reducible rfl)
 try simp only [Act.put, sA, sB, sC]
 refine tk 9 hSa ?_
 try simp only [Act.put, sA, sB, sC]
 refine tk 10 hSa ?_ (hy := by intro _ w; have ckx0 := kx0 _ w; go_simp <;> with_reducible rfl)
 try simp only [Act.put, sA, sB, sC]
 refine on1 11 fun K hK => ?_
 go_simp
 refine (value_any q _ x _ ((HL1.out.fr0 (KeptF.fr hSa)).stR i HI.out) (HXT.out.fr0 (KeptF.fr hSa)) hxl (by omega)).mono ?_
 rintro e w6 ⟨rfl, hf6⟩
 have hSb := KeptF.next hSa hf6
 refine hK.out _ _ hSb ?_
 clear hK K
 try simp only [Act.put, sA, sB, sC]
 refine wpAnyS_last (i := 12) rfl (by kernel_rfl) (by decide) (by kernel_rfl) (by rfl) fun K hK => ?_
 go_simp
 refine (st_set (HL1.out.fr0 (KeptF.fr hSb)) j HJ.out tab kx col _ HG.out).mono ?_
 rintro e w7 ⟨rfl, h⟩
 refine hK.out _ _ ?_
 have HL2 := Lib.hid h
 clear hK K h hSa hSb hf6 k3 k5 k12 kx0
 go_wp2_with fail
 go_end0
 exact ⟨rfl, HL2.out⟩
set_option maxRecDepth 100000 in
set_option maxHeartbeats 4000000 in
theorem scan_any (h : Lies w0 W l) (i j : Nat) (hi : l[i]? = some (stT q)) (hj : l[j]? = some (rowsT rb M)) (hij : i ≠ j) (n : InstrD) (kv vv : Value) (kx : Int) (hkt : TermsAt W kv n.key) (hvt : ValsAt W vv n.vals) (hfv : FewT n.vals) (hvl : q.vars.length ≤ 100000) (hg : Good M) (hv0 : 0 ≤ n.var ∧ n.var < q.vars.length) :
  Calls Tryz.prog 54 #[.pointer (some ⟨q.sb, 0, none⟩), n.val kv vv, .int .i64 kx, rptr rb] W fun e W' => e = .returned (.tuple #[]) ∧ Lies w0 W' (l.set i (stT { q with vars := q.vars.set n.var.toNat (msum (mtab M n.tab) n.col) })) := by
 obtain ⟨op, node, mode, tab, row, col, var, dst, eq, fro, upto, key, vals⟩ := n
 simp only at hkt hvt hfv hv0 ⊢
 obtain ⟨ka, kc, rfl⟩ := hkt.shape
 obtain ⟨va, vc, rfl⟩ := hvt.shape
 simp only [InstrD.val]
 obtain ⟨w1, hw1⟩ : ∃ w1, w1 = W.alloc (.cells #[.int .u8 op, .int .i64 node, .int .u8 mode, .int .i64 tab, .bool row, .int .i64 col, .int .i64 var, .int .i64 dst, .bool eq, .int .i64 fro, .int .i64 upto, .slice ka key.length kc, .slice va vals.length vc] 81) := ⟨_, rfl⟩
 have HF1 : Hid (Fr W w1 Nil) := by rw [hw1]; exact Lib.hid ((Fr.refl W Nil).alloc _)
 have HB1 : Hid (Bk w1 W.heap.size 81 #[.int .u8 op, .int .i64 node, .int .u8 mode, .int .i64 tab, .bool row, .int .i64 col, .int .i64 var, .int .i64 dst, .bool eq, .int .i64 fro, .int .i64 upto, .slice ka key.length kc, .slice va vals.length vc].toList) := by rw [hw1]; exact Lib.hid (Bk.new W _ _)
 have HL1 := Lib.hid (h.fr0 HF1.out)
 have HVT := Lib.hid (hvt.fr0 HF1.out)
 have HI := Lib.hid hi
 have HJ := Lib.hid hj
 have HG := Lib.hid hg
 have HFV := Lib.hid hfv
 have HVL := Lib.hid hvl
 have HW1 := Lib.hid hw1
 have HVB : Hid (∀ k, q.vv.ownBlock = some k → k < W.heap.size) := Lib.hid (h.st i hi).2.1.lt
 have HJ' : Hid (∀ x, (l.set i x)[j]? = some (rowsT rb M)) := fun x => by rw [List.getElem?_set_ne hij]; exact HJ.out
 clear h hkt hvt hi hj hg hfv hw1
 obtain ⟨m, rfl⟩ : ∃ m : Nat, var = (m : Int) := ⟨var.toNat, by omega⟩
 have hm : m < q.vars.length := by omega
 obtain ⟨vb, vcap, _, c3, _⟩ := HL1.out.box i HI.out m hm
 have k30 := KeptF.cell c3
 have k3 := KeptF.cell (w0 := w1) (show w1.cell? ⟨W.heap.size, 3, none⟩ = some _ from HB1.out.cell 3)
 have k5 := KeptF.cell (w0 := w1) (show w1.cell? ⟨W.heap.size, 5, none⟩ = some _ from HB1.out.cell 5)
 have k6 := KeptF.cell (w0 := w1) (show w1.cell? ⟨W.heap.size, 6, none⟩ = some _ from HB1.out.cell 6)
 clear c3
 go_enter Tryz.func54, Tryz.ntmps54
 go_wp2_with fail
 rw [← HW1.out]
 refine wp_region_sink 13 (KeptF w1) (by kernel_rfl) ?_
 have hSa : KeptF w1 w1.drew := KeptF.start _
 refine tk 0 hSa ?_
 refine tk 1 hSa ?_
 refine tk 2 hSa ?_
 try simp only [Act.put, sA, sB, sC]
 refine tk 3 hSa ?_ (hy := by intro _ w; have ck30 := k30 _ w; go_simp <;> with_reducible rfl)
 try simp only [Act.put, sA, sB, sC]
 refine tk 4 hSa ?_
 try simp only [Act.put, sA, sB, sC]
 refine tk 5 hSa ?_ (hy := by intro _ w; have ck6 := k6 _ w; go_simp <;> with_reducible rfl)
 try simp only [Act.put, sA, sB, sC]
 refine tk 6 hSa ?_
 refine tk 7 hSa ?_
 try simp only [Act.put, sA, sB, sC]
 refine tk 8 hSa ?_ (hy := by intro _ w; have ck3 := k3 _ w; go_simp <;> with_reducible rfl)
 try simp only [Act.put, sA, sB, sC]
 refine tk 9 hSa ?_
 try simp only [Act.put, sA, sB, sC]
 refine tk 10 hSa ?_ (hy := by intro _ w; have ck5 := k5 _ w; go_simp <;> with_reducible rfl)
 try simp only [Act.put, sA, sB, sC]
 refine on1 11 fun K hK => ?_
 go_simp
 obtain ⟨Sr, hr, _⟩ := (HL1.out.fr0 (KeptF.fr hSa)).get j _ HJ.out
 refine (api_sum tab col hr HG.out).mono ?_
 rintro e w6 ⟨rfl, hf6⟩
 have hSb := KeptF.next hSa hf6
 refine hK.out _ _ hSb ?_
 clear hK K hr
 try simp only [Act.put, sA, sB, sC]
 refine tk 12 hSb ?_
 try simp only [Act.put, sA, sB, sC]
 have HL6 := Lib.hid (HL1.out.fr0 (KeptF.fr hSb))
 obtain ⟨vb2, vcap2, e2, d3, d4, d5, d6⟩ := HL6.out.box i HI.out m hm
 have hvv := ((HL6.out.fr0 (Fr.refl _ _)).stR i HI.out).box.cell 3
 obtain ⟨rfl, rfl⟩ : vb2 = vb ∧ vcap2 = vcap := by
  have e3 := k30 _ hSb
  rw [d3] at e3
  simp only [Option.some.injEq, Value.slice.injEq, Addr.mk.injEq, and_true, true_and] at e3
  exact e3
 have D6 := Lib.hid d6
 refine wpAnyS_last (i := 13) rfl (by kernel_rfl) (by decide) (by kernel_rfl) (by rfl) fun K hK => ?_
 clear d6 e2 hvv d3
 go_simp
 refine hK.out _ _ ?_
 clear hK K d4 d5 k30 k3 k5 k6 hSa hSb hf6
 go_wp2_with fail
 go_end0
 exact ⟨rfl, D6.out _⟩
set_option maxRecDepth 100000 in
set_option maxHeartbeats 4000000 in
theorem let_any (h : Lies w0 W l) (i j : Nat) (hi : l[i]? = some (stT q)) (hj : l[j]? = some (rowsT rb M)) (hij : i ≠ j) (n : InstrD) (kv vv : Value) (kx : Int) (hkt : TermsAt W kv n.key) (hvt : ValsAt W vv n.vals) (hfv : FewT n.vals) (hvl : q.vars.length ≤ 100000) (hg : Good M) (hv0 : 0 ≤ n.var ∧ n.var < q.vars.length) (h1 : 0 < n.vals.length) :
  Calls Tryz.prog 55 #[.pointer (some ⟨q.sb, 0, none⟩), n.val kv vv, .int .i64 kx, rptr rb] W fun e W' => e = .returned (.tuple #[]) ∧ Lies w0 W' (l.set i (stT { q with vars := q.vars.set n.var.toNat (valP q.vars (n.vals.getD 0 [])) })) := by
 obtain ⟨op, node, mode, tab, row, col, var, dst, eq, fro, upto, key, vals⟩ := n
 simp only at hkt hvt hfv hv0 h1 ⊢
 obtain ⟨ka, kc, rfl⟩ := hkt.shape
 obtain ⟨va, vc, rfl⟩ := hvt.shape
 simp only [InstrD.val]
 obtain ⟨w1, hw1⟩ : ∃ w1, w1 = W.alloc (.cells #[.int .u8 op, .int .i64 node, .int .u8 mode, .int .i64 tab, .bool row, .int .i64 col, .int .i64 var, .int .i64 dst, .bool eq, .int .i64 fro, .int .i64 upto, .slice ka key.length kc, .slice va vals.length vc] 81) := ⟨_, rfl⟩
 have HF1 : Hid (Fr W w1 Nil) := by rw [hw1]; exact Lib.hid ((Fr.refl W Nil).alloc _)
 have HB1 : Hid (Bk w1 W.heap.size 81 #[.int .u8 op, .int .i64 node, .int .u8 mode, .int .i64 tab, .bool row, .int .i64 col, .int .i64 var, .int .i64 dst, .bool eq, .int .i64 fro, .int .i64 upto, .slice ka key.length kc, .slice va vals.length vc].toList) := by rw [hw1]; exact Lib.hid (Bk.new W _ _)
 have HL1 := Lib.hid (h.fr0 HF1.out)
 have HVT := Lib.hid (hvt.fr0 HF1.out)
 have HI := Lib.hid hi
 have HJ := Lib.hid hj
 have HG := Lib.hid hg
 have HFV := Lib.hid hfv
 have HVL := Lib.hid hvl
 have HW1 := Lib.hid hw1
 have HVB : Hid (∀ k, q.vv.ownBlock = some k → k < W.heap.size) := Lib.hid (h.st i hi).2.1.lt
 have HJ' : Hid (∀ x, (l.set i x)[j]? = some (rowsT rb M)) := fun x => by rw [List.getElem?_set_ne hij]; exact HJ.out
 clear h hkt hvt hi hj hg hfv hw1
 obtain ⟨m, rfl⟩ : ∃ m : Nat, var = (m : Int) := ⟨var.toNat, by omega⟩
 have hm : m < q.vars.length := by omega
 obtain ⟨xb, xoff, xa, xc, rfl, hx0, hxt⟩ := HVT.out.get 0 h1
 have hxl : (vals.getD 0 []).length ≤ 100000 := by
  rw [List.getD_eq_getElem?_getD, List.getElem?_eq_getElem h1]
  exact HFV.out.2 _ (List.getElem_mem h1)
 have HXT := Lib.hid hxt
 simp only [Nat.add_zero] at hx0
 have kx0 := KeptF.cell hx0
 generalize vals.getD 0 [] = x at *
 obtain ⟨vb, vcap, _, c3, _⟩ := HL1.out.box i HI.out m hm
 have k30 := KeptF.cell c3
 have k6 := KeptF.cell (w0 := w1) (show w1.cell? ⟨W.heap.size, 6, none⟩ = some _ from HB1.out.cell 6)
 have k12 := KeptF.cell (w0 := w1) (show w1.cell? ⟨W.heap.size, 12, none⟩ = some _ from HB1.out.cell 12)
 clear c3 hx0 hxt
 go_enter Tryz.func55, Tryz.ntmps55
 go_wp2_with fail
 rw [← HW1.out]
 refine wp_region_sink 13 (KeptF w1) (by kernel_rfl) ?_
 have hSa : KeptF w1 w1.drew := KeptF.start _
 refine tk 0 hSa ?_
 refine tk 1 hSa ?_
 refine tk 2 hSa ?_
 try simp only [Act.put, sA, sB, sC]
 refine tk 3 hSa ?_ (hy := by intro _ w; have ck30 := k30 _ w; go_simp <;> with_reducible rfl)
 try simp only [Act.put, sA, sB, sC]
 refine tk 4 hSa ?_
 try simp only [Act.put, sA, sB, sC]
 refine tk 5 hSa ?_ (hy := by intro _ w; have ck6 := k6 _ w; go_simp <;> with_reducible rfl)
 try simp only [Act.put, sA, sB, sC]
 refine tk 6 hSa ?_
 refine tk 7 hSa ?_
 try simp only [Act.put, sA, sB, sC]
 refine tk 8 hSa ?_ (hy := by intro _ w; have ck12 := k12 _ w; go_simp <;> with_reducible rfl)
 try simp only [Act.put, sA, sB, sC]
 refine tk 9 hSa ?_
 try simp only [Act.put, sA, sB, sC]
 refine tk 10 hSa ?_ (hy := by intro _ w; have ckx0 := kx0 _ w; go_simp <;> with_reducible rfl)
 try simp only [Act.put, sA, sB, sC]
 refine on1 11 fun K hK => ?_
 go_simp
 refine (value_any q _ x _ ((HL1.out.fr0 (KeptF.fr hSa)).stR i HI.out) (HXT.out.fr0 (KeptF.fr hSa)) hxl (by omega)).mono ?_
 rintro e w6 ⟨rfl, hf6⟩
 have hSb := KeptF.next hSa hf6
 refine hK.out _ _ hSb ?_
 clear hK K
 try simp only [Act.put, sA, sB, sC]
 refine tk 12 hSb ?_
 try simp only [Act.put, sA, sB, sC]
 have HL6 := Lib.hid (HL1.out.fr0 (KeptF.fr hSb))
 obtain ⟨vb2, vcap2, e2, d3, d4, d5, d6⟩ := HL6.out.box i HI.out m hm
 have hvv := ((HL6.out.fr0 (Fr.refl _ _)).stR i HI.out).box.cell 3
 obtain ⟨rfl, rfl⟩ : vb2 = vb ∧ vcap2 = vcap := by
  have e3 := k30 _ hSb
  rw [d3] at e3
  simp only [Option.some.injEq, Value.slice.injEq, Addr.mk.injEq, and_true, true_and] at e3
  exact e3
 have D6 := Lib.hid d6
 refine wpAnyS_last (i := 13) rfl (by kernel_rfl) (by decide) (by kernel_rfl) (by rfl) fun K hK => ?_
 clear d6 e2 hvv d3
 go_simp
 refine hK.out _ _ ?_
 clear hK K d4 d5 k30 k6 k12 kx0 hSa hSb hf6
 go_wp2_with fail
 go_end0
 exact ⟨rfl, D6.out _⟩
set_option maxRecDepth 100000 in
set_option maxHeartbeats 4000000 in
theorem read_any (h : Lies w0 W l) (i j : Nat) (hi : l[i]? = some (stT q)) (hj : l[j]? = some (rowsT rb M)) (hij : i ≠ j) (n : InstrD) (kv vv : Value) (kx : Int) (hkt : TermsAt W kv n.key) (hvt : ValsAt W vv n.vals) (hfv : FewT n.vals) (hvl : q.vars.length ≤ 100000) (hg : Good M) (hv0 : 0 ≤ n.var ∧ n.var < q.vars.length) (hc0 : 0 ≤ n.col) (hcl : ∀ xs, mget (mtab M n.tab) kx = some xs → n.col < xs.length ∧ xs.length ≤ 100000) :
  Calls Tryz.prog 50 #[.pointer (some ⟨q.sb, 0, none⟩), n.val kv vv, .int .i64 kx, rptr rb] W fun e W' => e = .returned (.tuple #[]) ∧ Lies w0 W' (l.set i (stT { q with vars := q.vars.set n.var.toNat (readK M n.tab kx n.col) })) := by
 obtain ⟨op, node, mode, tab, row, col, var, dst, eq, fro, upto, key, vals⟩ := n
 simp only at hkt hvt hfv hv0 hc0 hcl ⊢
 obtain ⟨ka, kc, rfl⟩ := hkt.shape
 obtain ⟨va, vc, rfl⟩ := hvt.shape
 simp only [InstrD.val]
 obtain ⟨w1, hw1⟩ : ∃ w1, w1 = W.alloc (.cells #[.int .u8 op, .int .i64 node, .int .u8 mode, .int .i64 tab, .bool row, .int .i64 col, .int .i64 var, .int .i64 dst, .bool eq, .int .i64 fro, .int .i64 upto, .slice ka key.length kc, .slice va vals.length vc] 81) := ⟨_, rfl⟩
 have HF1 : Hid (Fr W w1 Nil) := by rw [hw1]; exact Lib.hid ((Fr.refl W Nil).alloc _)
 have HB1 : Hid (Bk w1 W.heap.size 81 #[.int .u8 op, .int .i64 node, .int .u8 mode, .int .i64 tab, .bool row, .int .i64 col, .int .i64 var, .int .i64 dst, .bool eq, .int .i64 fro, .int .i64 upto, .slice ka key.length kc, .slice va vals.length vc].toList) := by rw [hw1]; exact Lib.hid (Bk.new W _ _)
 have HL1 := Lib.hid (h.fr0 HF1.out)
 have HVT := Lib.hid (hvt.fr0 HF1.out)
 have HI := Lib.hid hi
 have HJ := Lib.hid hj
 have HG := Lib.hid hg
 have HFV := Lib.hid hfv
 have HVL := Lib.hid hvl
 have HW1 := Lib.hid hw1
 have HVB : Hid (∀ k, q.vv.ownBlock = some k → k < W.heap.size) := Lib.hid (h.st i hi).2.1.lt
 have HJ' : Hid (∀ x, (l.set i x)[j]? = some (rowsT rb M)) := fun x => by rw [List.getElem?_set_ne hij]; exact HJ.out
 clear h hkt hvt hi hj hg hfv hw1
 obtain ⟨m, rfl⟩ : ∃ m : Nat, var = (m : Int) := ⟨var.toNat, by omega⟩
 have hm : m < q.vars.length := by omega
 have HCL := Lib.hid hcl
 clear hcl
 obtain ⟨vb, vcap, ev, c3, d4, d5, d6⟩ := HL1.out.box i HI.out m hm
 have hvne : W.heap.size ≠ vb := fun e => by
  have := HVB.out vb (by rw [ev]; rfl)
  omega
 have k30 := KeptF.cell c3
 have k6 := KeptF.cell (w0 := w1) (show w1.cell? ⟨W.heap.size, 6, none⟩ = some _ from HB1.out.cell 6)
 have D6 := Lib.hid ((d6 0).fr0 ((Fr.refl _ Nil).drew))
 clear c3 d6 ev
 go_enter Tryz.func50, Tryz.ntmps50
 go_wp2_with fail
 rw [← HW1.out]
 refine wp_region_sink 7 (KeptF w1) (by kernel_rfl) ?_
 have hSa : KeptF w1 w1.drew := KeptF.start _
 refine tk 0 hSa ?_
 refine tk 1 hSa ?_
 refine tk 2 hSa ?_
 try simp only [Act.put, sA, sB, sC]
 refine tk 3 hSa ?_ (hy := by intro _ w; have ck30 := k30 _ w; go_simp <;> with_reducible rfl)
 try simp only [Act.put, sA, sB, sC]
 refine tk 4 hSa ?_
 try simp only [Act.put, sA, sB, sC]
 refine tk 5 hSa ?_ (hy := by intro _ w; have ck6 := k6 _ w; go_simp <;> with_reducible rfl)
 try simp only [Act.put, sA, sB, sC]
 refine tk 6 hSa ?_
 try simp only [Act.put, sA, sB, sC]
 refine wpAnyS_last (i := 7) rfl (by kernel_rfl) (by decide) (by kernel_rfl) (by rfl) fun K hK => ?_
 go_simp
 refine hK.out _ _ ?_
 clear hK K d4 d5 hSa k30 k6
 obtain ⟨w2, hw2⟩ : ∃ w2, w2 = (w1.setCell ⟨vb, m, none⟩ (.int .i64 0)).drew := ⟨_, rfl⟩
 rw [← hw2] at D6 ⊢
 have hlti := (List.getElem?_eq_some_iff.1 HI.out).1
 have HI2 : Hid ((l.set i (stT { q with vars := q.vars.set m 0 }))[i]? = some (stT { q with vars := q.vars.set m 0 })) := List.getElem?_set_self hlti
 have HJ2 := Lib.hid (HJ'.out (stT { q with vars := q.vars.set m 0 }))
 have HB2 : Hid (Bk w2 W.heap.size 81 #[.int .u8 op, .int .i64 node, .int .u8 mode, .int .i64 tab, .bool row, .int .i64 col, .int .i64 m, .int .i64 dst, .bool eq, .int .i64 fro, .int .i64 upto, .slice ka key.length kc, .slice va vals.length vc].toList) := by rw [hw2]; exact Lib.hid (HB1.out.fr (Fr.store w1 vb m (.int .i64 0)).drew hvne)
 clear hw2
 have z3 := HB2.out.cell 3
 simp only [List.getElem?_cons_zero, List.getElem?_cons_succ] at z3
 go_wp2_with fail
 refine (st_get D6.out j HJ2.out tab kx HG.out).mono ?_
 rintro e w3 ⟨hr, h⟩
 have HL3 := Lib.hid h
 clear h z3
 have HW : Hid (∀ x, (l.set i (stT { q with vars := q.vars.set m 0 })).set i (stT { q with vars := (q.vars.set m 0).set m x }) = l.set i (stT { q with vars := q.vars.set m x })) := fun x => by rw [List.set_set, List.set_set]
 rcases hr with ⟨xs, hx, a, cap, rfl, hcl⟩ | ⟨hx, rfl, hf3⟩
 ·have HX := Lib.hid hx
  have hcc := (HCL.out xs hx)
  obtain ⟨cm, rfl⟩ : ∃ cm : Nat, col = (cm : Int) := ⟨col.toNat, by omega⟩
  have hcm : cm < xs.length := by omega
  have hxl := hcc.2
  obtain ⟨ho, hnew, hf3⟩ := hcl
  obtain ⟨g, gcap, eg, _⟩ := ho.form (by omega)
  simp only [Value.slice.injEq, true_and] at eg
  obtain ⟨rfl, rfl⟩ := eg
  obtain ⟨y, hy⟩ : ∃ y, y = xs.getD cm 0 := ⟨_, rfl⟩
  have hx0 := ho.cell rfl cm hcm
  rw [← hy] at hx0
  have HY := Lib.hid hy
  have x0 := KeptF.cell hx0
  obtain ⟨vb2, vcap2, e2, g3, g4, g5, g6⟩ := HL3.out.box i HI2.out m (by simpa using hm)
  have hvl2 : (q.vars.set m 0).length = q.vars.length := by simp
  rw [show (({ q with vars := q.vars.set m 0 } : StV).vars.length) = q.vars.length from hvl2] at g3
  have k40 := KeptF.cell g3
  have z5 := KeptF.cell (w0 := w3) (show w3.cell? ⟨W.heap.size, 5, none⟩ = some _ from (HB2.out.fr hf3 fun h => h).cell 5)
  have z6 := KeptF.cell (w0 := w3) (show w3.cell? ⟨W.heap.size, 6, none⟩ = some _ from (HB2.out.fr hf3 fun h => h).cell 6)
  have G6 := Lib.hid g6
  clear hx hcc ho hnew hf3 e2 g3 g6 hx0 hy
  go_wp2_with fail
  refine wp_region_sink 12 (KeptF w3) (by kernel_rfl) ?_
  have hSa : KeptF w3 w3.drew := KeptF.start _
  refine tk 0 hSa ?_
  refine tk 1 hSa ?_
  refine tk 2 hSa ?_
  try simp only [Act.put, sA, sB, sC]
  refine tk 3 hSa ?_ (hy := by intro _ w; have ck40 := k40 _ w; go_simp <;> with_reducible rfl)
  try simp only [Act.put, sA, sB, sC]
  refine tk 4 hSa ?_
  try simp only [Act.put, sA, sB, sC]
  refine tk 5 hSa ?_ (hy := by intro _ w; have cz6 := z6 _ w; go_simp <;> with_reducible rfl)
  try simp only [Act.put, sA, sB, sC]
  refine tk 6 hSa ?_
  refine tk 7 hSa ?_
  try simp only [Act.put, sA, sB, sC]
  refine tk 8 hSa ?_ (hy := by intro _ w; have cz5 := z5 _ w; go_simp <;> with_reducible rfl)
  try simp only [Act.put, sA, sB, sC]
  refine tk 9 hSa ?_
  try simp only [Act.put, sA, sB, sC]
  refine tk 10 hSa ?_ (hy := by intro _ w; have cx0 := x0 _ w; go_simp <;> with_reducible rfl)
  try simp only [Act.put, sA, sB, sC]
  refine tk 11 hSa ?_
  try simp only [Act.put, sA, sB, sC]
  refine wpAnyS_last (i := 12) rfl (by kernel_rfl) (by decide) (by kernel_rfl) (by rfl) fun K hK => ?_
  go_simp
  refine hK.out _ _ ?_
  clear hK K hSa k40 z5 z6 x0 g4 g5
  go_wp2_with fail
  go_end0
  refine ⟨rfl, ?_⟩
  have h9 := (G6.out y).fr0 ((Fr.refl _ Nil).drew)
  rw [readK_some HX.out, Int.toNat_natCast, Int.toNat_natCast, ← HY.out]
  have e9 := HW.out y
  rw [show ({ q with vars := (q.vars.set m 0).set m y } : StV) = { ({ q with vars := q.vars.set m 0 } : StV) with vars := (q.vars.set m 0).set m y } from rfl] at e9
  rw [← e9]
  exact h9
 ·have HX := Lib.hid hx
  clear hx
  go_wp2_with fail
  go_end0
  exact ⟨rfl, by rw [readK_none HX.out, Int.toNat_natCast]; exact HL3.out⟩
set_option maxRecDepth 100000 in
set_option maxHeartbeats 4000000 in
theorem emit_any (h : Lies w0 W l) (i j : Nat) (hi : l[i]? = some (stT q)) (hj : l[j]? = some (rowsT rb M)) (hij : i ≠ j) (n : InstrD) (kv vv : Value) (kx : Int) (hkt : TermsAt W kv n.key) (hvt : ValsAt W vv n.vals) (hfv : FewT n.vals) (hvl : q.vars.length ≤ 100000) (hg : Good M) (h1 : 0 < n.vals.length) (hol : q.out.length ≤ 100000) :
  Calls Tryz.prog 56 #[.pointer (some ⟨q.sb, 0, none⟩), n.val kv vv, .int .i64 kx, rptr rb] W fun e W' => e = .returned (.tuple #[]) ∧ ∃ ov, Lies w0 W' (l.set i (stT { q with ov := ov, out := q.out ++ [valP q.vars (n.vals.getD 0 [])] })) := by
 obtain ⟨op, node, mode, tab, row, col, var, dst, eq, fro, upto, key, vals⟩ := n
 simp only at hkt hvt hfv h1 ⊢
 obtain ⟨ka, kc, rfl⟩ := hkt.shape
 obtain ⟨va, vc, rfl⟩ := hvt.shape
 simp only [InstrD.val]
 obtain ⟨w1, hw1⟩ : ∃ w1, w1 = W.alloc (.cells #[.int .u8 op, .int .i64 node, .int .u8 mode, .int .i64 tab, .bool row, .int .i64 col, .int .i64 var, .int .i64 dst, .bool eq, .int .i64 fro, .int .i64 upto, .slice ka key.length kc, .slice va vals.length vc] 81) := ⟨_, rfl⟩
 have HF1 : Hid (Fr W w1 Nil) := by rw [hw1]; exact Lib.hid ((Fr.refl W Nil).alloc _)
 have HB1 : Hid (Bk w1 W.heap.size 81 #[.int .u8 op, .int .i64 node, .int .u8 mode, .int .i64 tab, .bool row, .int .i64 col, .int .i64 var, .int .i64 dst, .bool eq, .int .i64 fro, .int .i64 upto, .slice ka key.length kc, .slice va vals.length vc].toList) := by rw [hw1]; exact Lib.hid (Bk.new W _ _)
 have HL1 := Lib.hid (h.fr0 HF1.out)
 have HVT := Lib.hid (hvt.fr0 HF1.out)
 have HI := Lib.hid hi
 have HJ := Lib.hid hj
 have HG := Lib.hid hg
 have HFV := Lib.hid hfv
 have HVL := Lib.hid hvl
 have HW1 := Lib.hid hw1
 have HVB : Hid (∀ k, q.vv.ownBlock = some k → k < W.heap.size) := Lib.hid (h.st i hi).2.1.lt
 have HOV : Hid (∀ k, q.ov.ownBlock = some k → k < W.heap.size ∧ k ≠ q.sb) := by
  obtain ⟨S, ⟨C, a1, _⟩, _⟩ := h.get i _ hi
  exact Lib.hid fun k hk => ⟨a1.out.lt k hk, (a1.co k hk).2⟩
 have HJ' : Hid (∀ x, (l.set i x)[j]? = some (rowsT rb M)) := fun x => by rw [List.getElem?_set_ne hij]; exact HJ.out
 clear h hkt hvt hi hj hg hfv hw1
 obtain ⟨xb, xoff, xa, xc, rfl, hx0, hxt⟩ := HVT.out.get 0 h1
 have hxl : (vals.getD 0 []).length ≤ 100000 := by
  rw [List.getD_eq_getElem?_getD, List.getElem?_eq_getElem h1]
  exact HFV.out.2 _ (List.getElem_mem h1)
 have HXT := Lib.hid hxt
 simp only [Nat.add_zero] at hx0
 generalize vals.getD 0 [] = x at *
 have HX0 := Lib.hid hx0
 obtain ⟨oa, oc, eo⟩ := (HL1.out.st i HI.out).2.2.1.shape
 have HE := Lib.hid eo
 have c4 := (HL1.out.st i HI.out).1.cell 4
 simp only [StV.cs, List.getElem?_cons_zero, List.getElem?_cons_succ] at c4
 rw [eo] at c4
 have c12 : w1.cell? ⟨W.heap.size, 12, none⟩ = some _ := HB1.out.cell 12
 have f4 := (HL1.out.st i HI.out).1.free 4
 have C4 := Lib.hid c4
 have C12 := Lib.hid c12
 have F4 := Lib.hid f4
 clear hx0 hxt eo c4 c12 f4
 go_enter Tryz.func56, Tryz.ntmps56
 go_wp2_with fail
 rw [← HW1.out]
 refine wp_region_sink 15 (fun w => w.cell? ⟨q.sb, 4, none⟩ = some (.slice oa q.out.length oc) ∧ w.cell? ⟨W.heap.size, 12, none⟩ = some (.slice (some ⟨xb, xoff, none⟩) vals.length vc)) (by kernel_rfl) ?_
 have hSa : (fun w : World => w.cell? ⟨q.sb, 4, none⟩ = some (.slice oa q.out.length oc) ∧ w.cell? ⟨W.heap.size, 12, none⟩ = some (.slice (some ⟨xb, xoff, none⟩) vals.length vc)) w1.drew := ⟨C4.out, C12.out⟩
 have k4 := fun (w : World) (h : (fun w : World => w.cell? ⟨q.sb, 4, none⟩ = some (.slice oa q.out.length oc) ∧ w.cell? ⟨W.heap.size, 12, none⟩ = some (.slice (some ⟨xb, xoff, none⟩) vals.length vc)) w) => h.1
 have k12 := fun (w : World) (h : (fun w : World => w.cell? ⟨q.sb, 4, none⟩ = some (.slice oa q.out.length oc) ∧ w.cell? ⟨W.heap.size, 12, none⟩ = some (.slice (some ⟨xb, xoff, none⟩) vals.length vc)) w) => h.2
 refine tk 0 hSa ?_
 refine tk 1 hSa ?_
 refine tk 2 hSa ?_
 refine tk 3 hSa ?_
 try simp only [Act.put, sA, sB, sC]
 refine tk 4 hSa ?_ (hy := by intro _ w; have ck4 := k4 _ w; go_simp <;> with_reducible rfl)
 try simp only [Act.put, sA, sB, sC]
 refine tk 5 hSa ?_
 refine tk 6 hSa ?_
 try simp only [Act.put, sA, sB, sC]
 refine tk 7 hSa ?_ (hy := by intro _ w; have ck12 := k12 _ w; go_simp <;> with_reducible rfl)
 try simp only [Act.put, sA, sB, sC]
 refine tk 8 hSa ?_
 try simp only [Act.put, sA, sB, sC]
 refine on1 9 fun K hK => ?_
 have c0 := (Fr.refl w1 Nil).drew.cell HX0.out fun h => h
 go_simp
 refine hK.out _ _ hSa ?_
 clear hK K c0
 try simp only [Act.put, sA, sB, sC]
 refine on1 10 fun K hK => ?_
 go_simp
 refine (value_any q _ x _ ((HL1.out.fr0 (Fr.refl w1 Nil).drew).stR i HI.out) (HXT.out.fr0 (Fr.refl w1 Nil).drew) hxl (by omega)).mono ?_
 rintro e w6 ⟨rfl, hf6⟩
 have hSb : (fun w : World => w.cell? ⟨q.sb, 4, none⟩ = some (.slice oa q.out.length oc) ∧ w.cell? ⟨W.heap.size, 12, none⟩ = some (.slice (some ⟨xb, xoff, none⟩) vals.length vc)) w6 := ⟨hf6.cell C4.out fun h => h, hf6.cell C12.out fun h => h⟩
 refine hK.out _ _ hSb ?_
 clear hK K
 try simp only [Act.put, sA, sB, sC]
 obtain ⟨y, hy⟩ : ∃ y, y = valP q.vars x := ⟨_, rfl⟩
 rw [← hy]
 have HY := Lib.hid hy
 clear hy
 refine on1 11 fun K hK => ?_
 go_simp
 have hf7 : Fr w1 (w6.alloc (.cells #[.int .i64 y] 2)) Nil := (((Fr.refl w1 Nil).drew).trans0 hf6).alloc _
 have hSc : (fun w : World => w.cell? ⟨q.sb, 4, none⟩ = some (.slice oa q.out.length oc) ∧ w.cell? ⟨W.heap.size, 12, none⟩ = some (.slice (some ⟨xb, xoff, none⟩) vals.length vc)) (w6.alloc (.cells #[.int .i64 y] 2)) := ⟨hf7.cell C4.out fun h => h, hf7.cell C12.out fun h => h⟩
 refine hK.out _ _ hSc ?_
 clear hK K
 try simp only [Act.put, sA, sB, sC]
 have HL7 := Lib.hid (HL1.out.fr0 hf7)
 have ho7 := (HL7.out.st i HI.out).2.2.1
 rw [HE.out] at ho7
 refine on1 12 fun K hK => ?_
 refine wp_app (P := Tryz.prog) _ _ _ 24 rfl Tryz.sltRun _ rfl ho7 _ rfl (slone w6 _ y) (by simp [Value.oneCell']) (by omega) ?_
 intro g cap2 W1 ho hgr hat
 have hfg : Fr (w6.alloc (.cells #[.int .i64 y] 2)) W1 (fun k => q.ov.ownBlock = some k) := (Fr.refl _ _).grown hgr fun k hk _ => by rw [HE.out]; exact hk
 have hbk := ((HL7.out.st i HI.out).1).fr hfg (fun e => (HOV.out _ e).2 rfl)
 have hSd : (fun w : World => w.cell? ⟨q.sb, 4, none⟩ = some (.slice oa q.out.length oc) ∧ w.cell? ⟨W.heap.size, 12, none⟩ = some (.slice (some ⟨xb, xoff, none⟩) vals.length vc)) W1 := ⟨hfg.cell hSc.1 fun e => (HOV.out _ e).2 rfl, hfg.cell hSc.2 fun e => by have h9 : W.heap.size < W.heap.size := (HOV.out _ e).1; omega⟩
 refine hK.out _ _ hSd ?_
 clear hK K
 try simp only [Act.put, sA, sB, sC]
 refine tk 13 hSd ?_
 refine tk 14 hSd ?_
 try simp only [Act.put, sA, sB, sC]
 have c4 := hSd.1
 have f4 := hbk.free 4
 have HD := Lib.hid (HL7.out.stOut i HI.out y (own_snocI ho) hfg (hat.imp (fun e => by rw [HE.out]; exact e) fun e k hk => by rw [e] at hk; cases hk; exact Nat.le_refl _))
 refine wpAnyS_last (i := 15) rfl (by kernel_rfl) (by decide) (by kernel_rfl) (by rfl) fun K hK => ?_
 go_simp
 refine hK.out _ _ ?_
 clear hK K c4 f4 hSa hSb hSc hSd k4 k12 hf6 hf7 ho7 ho hgr hat hfg hbk
 go_wp2_with fail
 go_end0
 exact ⟨rfl, _, by rw [← HY.out]; exact HD.out⟩
set_option maxRecDepth 100000 in
set_option maxHeartbeats 4000000 in
theorem put_any' (h : Lies w0 W l) (i j : Nat) (hi : l[i]? = some (stT q)) (hj : l[j]? = some (rowsT rb M)) (hij : i ≠ j) (n : InstrD) (kv vv : Value) (kx : Int) (hkt : TermsAt W kv n.key) (hvt : ValsAt W vv n.vals) (hfv : FewT n.vals) (hvl : q.vars.length ≤ 100000) (hg : Good M) :
  Calls Tryz.prog 52 #[.pointer (some ⟨q.sb, 0, none⟩), n.val kv vv, .int .i64 kx, rptr rb] W fun e W' => e = .returned (.tuple #[]) ∧ Lies w0 W' (l.set j (rowsT rb (mput M n.tab kx (n.vals.map (valP q.vars))).1)) := by
 obtain ⟨op, node, mode, tab, row, col, var, dst, eq, fro, upto, key, vals⟩ := n
 simp only at hkt hvt hfv ⊢
 obtain ⟨ka, kc, rfl⟩ := hkt.shape
 obtain ⟨va, vc, rfl⟩ := hvt.shape
 simp only [InstrD.val]
 obtain ⟨w1, hw1⟩ : ∃ w1, w1 = W.alloc (.cells #[.int .u8 op, .int .i64 node, .int .u8 mode, .int .i64 tab, .bool row, .int .i64 col, .int .i64 var, .int .i64 dst, .bool eq, .int .i64 fro, .int .i64 upto, .slice ka key.length kc, .slice va vals.length vc] 81) := ⟨_, rfl⟩
 have HF1 : Hid (Fr W w1 Nil) := by rw [hw1]; exact Lib.hid ((Fr.refl W Nil).alloc _)
 have HB1 : Hid (Bk w1 W.heap.size 81 #[.int .u8 op, .int .i64 node, .int .u8 mode, .int .i64 tab, .bool row, .int .i64 col, .int .i64 var, .int .i64 dst, .bool eq, .int .i64 fro, .int .i64 upto, .slice ka key.length kc, .slice va vals.length vc].toList) := by rw [hw1]; exact Lib.hid (Bk.new W _ _)
 have HL1 := Lib.hid (h.fr0 HF1.out)
 have HVT := Lib.hid (hvt.fr0 HF1.out)
 have HI := Lib.hid hi
 have HJ := Lib.hid hj
 have HG := Lib.hid hg
 have HFV := Lib.hid hfv
 have HVL := Lib.hid hvl
 have HW1 := Lib.hid hw1
 have HVB : Hid (∀ k, q.vv.ownBlock = some k → k < W.heap.size) := Lib.hid (h.st i hi).2.1.lt
 have HJ' : Hid (∀ x, (l.set i x)[j]? = some (rowsT rb M)) := fun x => by rw [List.getElem?_set_ne hij]; exact HJ.out
 clear h hkt hvt hi hj hg hfv hw1
 have c3 : w1.cell? ⟨W.heap.size, 3, none⟩ = some _ := HB1.out.cell 3
 have c12 : w1.cell? ⟨W.heap.size, 12, none⟩ = some _ := HB1.out.cell 12
 have hvn := HFV.out.1
 have C3 := Lib.hid c3
 clear c3
 go_enter Tryz.func52, Tryz.ntmps52
 have HW1s := HW1
 go_upto_region 2 with (fail)
 rw [← HW1.out]
 go_wp2_with fail
 go_loopw [8, 14] (fun vs vi wr => ∃ (t : Nat) (g : Option Addr) (cap : Nat), t ≤ vals.length ∧ vi = .int .i64 t ∧ vs = .slice g t cap ∧ wr.ownsRow w1.heap.size 2 1 (.slice g t cap) t (((vals.take t).map (valP q.vars)).map (Value.int .i64)) ∧ Fr w1 wr Nil) (fun _ vi _ => vals.length - (intOf vi).toNat)
 case atStart => exact ⟨0, none, 0, by omega, rfl, rfl, World.ownsRow_nil _ _ _ _, Fr.refl _ _⟩
 case round =>
  obtain ⟨t, g, cap, ht, rfl, rfl, ho, hf⟩ := hrel
  have HO := Lib.hid ho
  have HF := Lib.hid hf
  obtain ⟨wo, rfl⟩ : ∃ wo : World, wo = wr := ⟨_, rfl⟩
  clear ho hf
  by_cases hlt : t < vals.length
  ·obtain ⟨xb, xoff, xa, xc, rfl, hx0, hxt⟩ := HVT.out.get t hlt
   have hxl : (vals.getD t []).length ≤ 100000 := by
    rw [List.getD_eq_getElem?_getD, List.getElem?_eq_getElem hlt]
    exact HFV.out.2 _ (List.getElem_mem hlt)
   have HTK : Hid (((vals.take (t + 1)).map (valP q.vars)).map (Value.int .i64) = ((vals.take t).map (valP q.vars)).map (Value.int .i64) ++ [.int .i64 (valP q.vars (vals.getD t []))]) := by
    have : ((vals.take (t + 1)).map (valP q.vars)).map (Value.int .i64) = ((vals.take t).map (valP q.vars)).map (Value.int .i64) ++ [.int .i64 (valP q.vars (vals.getD t []))] := by
     have e : vals.take (t + 1) = vals.take t ++ [vals.getD t []] := by rw [List.take_add_one, List.getElem?_eq_getElem hlt, List.getD_eq_getElem?_getD, List.getElem?_eq_getElem hlt]; rfl
     rw [e, List.map_append, List.map_append]
     rfl
    exact this
   generalize vals.getD t [] = x at *
   have HXT := Lib.hid (hxt.fr0 HF.out)
   have p0 := HF.out.cell hx0 fun h => h
   have hii : (t : Int) < (vals.length : Int) := by omega
   clear hx0 hxt
   go_wp2_with fail
   refine (value_any q _ x _ ((HL1.out.fr0 HF.out).stR i HI.out) HXT.out hxl (by omega)).mono ?_
   rintro e w6 ⟨he, hf6⟩
   obtain ⟨y, hy⟩ : ∃ y, y = valP q.vars x := ⟨_, rfl⟩
   rw [← hy] at he
   subst he
   have HY := Lib.hid hy
   have HF6 := Lib.hid hf6
   clear hy hf6 p0
   have ho7 := (HF6.out.own HO.out fun _ _ h => h)
   have HO7 := Lib.hid ho7
   clear ho7
   go_wp2_with (at_builtin; refine wpList_app _ rfl _ _ 24 rfl Tryz.sltRun _ rfl (World.ownsRow.alloc (own_mono HO7.out (Nat.zero_le _)) _) _ rfl (slone w6 _ y) (by simp [Value.oneCell']) (by omega) ?_; intro g2 cap2 W1 ho hg hat; have HO8 := Lib.hid ho; have HG8 := Lib.hid hg; have HAT := Lib.hid hat; clear ho hg hat)
   go_roundw
   case rel =>
    have hlo := fun k hk => (World.ownsRow.lt HO7.out k hk)
    refine ⟨t + 1, g2, cap2, by omega, by go_num, rfl, ?_, ?_⟩
    ·rw [HTK.out, ← HY.out]
     refine own_base HO8.out fun k hk => ?_
     rcases HAT.out with e | e
     ·exact (hlo k (show (Value.slice g t cap).ownBlock = some k from e.symm.trans hk)).1
     ·rw [e] at hk
      cases hk
      have hsz : (w6.alloc (.cells #[.int .i64 y] 2)).heap.size = w6.heap.size + 1 := by simp
      have := HF.out.size
      have := HF6.out.size
      omega
    ·refine (((HF.out.trans0 HF6.out).alloc _)).grown HG8.out fun k hk hlt => ?_
     have := (hlo k hk).1
     omega
   case measure => simp [intOf]; omega
  ·obtain rfl : t = vals.length := by omega
   have hii : ¬ (vals.length : Int) < (vals.length : Int) := by omega
   have ho := HO.out
   rw [List.take_length] at ho
   have hiv : IntsAt wo (.slice g vals.length cap) (vals.map (valP q.vars)) := by
    have h2 := (SlAt.of_own ho).1
    have : SlAt wo 1 (.slice g vals.length cap) (vals.map (valP q.vars)).length ((vals.map (valP q.vars)).map (Value.int .i64)) := by rw [List.length_map]; exact h2
    exact this.ints
   have HIV := Lib.hid hiv
   have z3 := HF.out.cell C3.out fun h => h
   have HLw := Lib.hid (HL1.out.fr0 HF.out)
   clear ho hiv hlt ht
   go_wp2_with fail
   refine (st_put HLw.out j HJ.out tab kx _ (vals.map (valP q.vars)) HG.out HIV.out (by rw [List.length_map]; omega)).mono ?_
   rintro e w9 ⟨rfl, h⟩
   have HL9 := Lib.hid h
   clear h z3
   go_wp2_with fail
   go_end0
   exact ⟨rfl, HL9.out⟩
end
end Go.Proofs.YtgpekgnhbccnoaaGreat
namespace Go.Proofs.YtgpekgnhbccnoaaGreat
open Go Go.RowKit
attribute [local go_sem ↓] Go.wp_at_zero Go.wp_at_succ

section
variable {w0 W : World} {l : List Thing} {q : StV}
theorem wrap_is (x : Int) : IntKind.i64.wrap x = wrap64 x := by
 unfold wrap64
 rw [IntKind.wrap_i64]
def OnRet (w0 : World) (l : List Thing) (i : Nat) (q : StV) (n : InstrD) (e : Ending) (W' : World) : Prop :=
 ∃ t : Int, e = .returned (.tuple #[.int .i64 t, .bool (onP n q.vars).2.isSome]) ∧ (∀ x, (onP n q.vars).2 = some x → t = x) ∧ Lies w0 W' (l.set i (stT { q with vars := (onP n q.vars).1 }))
theorem OnRet.same {w0 W' : World} {l : List Thing} {i : Nat} {q : StV} {n : InstrD} {e : Ending} {o : Option Int} {t : Int} (ho : onP n q.vars = (q.vars, o)) (hi : l[i]? = some (stT q)) (he : e = .returned (.tuple #[.int .i64 t, .bool o.isSome])) (ht : ∀ x, o = some x → t = x) (h : Lies w0 W' l) : OnRet w0 l i q n e W' := by
 have hself : l.set i (stT q) = l := by
  have hlt := (List.getElem?_eq_some_iff.1 hi).1
  rw [← (List.getElem?_eq_some_iff.1 hi).2]
  exact List.set_getElem_self hlt
 unfold OnRet
 rw [ho]
 exact ⟨t, he, ht, by rw [hself]; exact h⟩
theorem OnRet.turned {w0 W' : World} {l : List Thing} {i : Nat} {q : StV} {n : InstrD} {e : Ending} {o : Option Int} {t : Int} {vs : List Int} (ho : onP n q.vars = (vs, o)) (he : e = .returned (.tuple #[.int .i64 t, .bool o.isSome])) (ht : ∀ x, o = some x → t = x) (h : Lies w0 W' (l.set i (stT { q with vars := vs }))) : OnRet w0 l i q n e W' := by
 unfold OnRet
 rw [ho]
 exact ⟨t, he, ht, h⟩
set_option maxRecDepth 100000 in
set_option maxHeartbeats 4000000 in
theorem on_jump (h : Lies w0 W l) (i : Nat) (hi : l[i]? = some (stT q)) (n : InstrD) (kv vv : Value) (hkt : TermsAt W kv n.key) (hvt : ValsAt W vv n.vals) (hfv : FewT n.vals) (hvl : q.vars.length ≤ 100000) (h10 : n.op = 10) :
  Calls Tryz.prog 57 #[.pointer (some ⟨q.sb, 0, none⟩), n.val kv vv] W (OnRet w0 l i q n) := by
 obtain ⟨op, node, mode, tab, row, col, var, dst, eq, fro, upto, key, vals⟩ := n
 simp only at hkt hvt hfv h10 ⊢
 obtain ⟨ka, kc, rfl⟩ := hkt.shape
 obtain ⟨va, vc, rfl⟩ := hvt.shape
 simp only [InstrD.val]
 obtain ⟨w1, hw1⟩ : ∃ w1, w1 = W.alloc (.cells #[.int .u8 op, .int .i64 node, .int .u8 mode, .int .i64 tab, .bool row, .int .i64 col, .int .i64 var, .int .i64 dst, .bool eq, .int .i64 fro, .int .i64 upto, .slice ka key.length kc, .slice va vals.length vc] 81) := ⟨_, rfl⟩
 have HF1 : Hid (Fr W w1 Nil) := by rw [hw1]; exact Lib.hid ((Fr.refl W Nil).alloc _)
 have HB1 : Hid (Bk w1 W.heap.size 81 #[.int .u8 op, .int .i64 node, .int .u8 mode, .int .i64 tab, .bool row, .int .i64 col, .int .i64 var, .int .i64 dst, .bool eq, .int .i64 fro, .int .i64 upto, .slice ka key.length kc, .slice va vals.length vc].toList) := by rw [hw1]; exact Lib.hid (Bk.new W _ _)
 have HL1 := Lib.hid (h.fr0 HF1.out)
 have HVT := Lib.hid (hvt.fr0 HF1.out)
 have HI := Lib.hid hi
 have HFV := Lib.hid hfv
 have HVL := Lib.hid hvl
 have HW1 := Lib.hid hw1
 have HVB : Hid (∀ k, q.vv.ownBlock = some k → k < W.heap.size) := Lib.hid (h.st i hi).2.1.lt
 clear h hkt hvt hi hfv hw1
 subst h10
 have HO : Hid (onP ⟨10, node, mode, tab, row, col, var, dst, eq, fro, upto, key, vals⟩ q.vars = (q.vars, some dst)) := Lib.hid rfl
 have c0 : w1.cell? ⟨W.heap.size, 0, none⟩ = some _ := HB1.out.cell 0
 have c7 : w1.cell? ⟨W.heap.size, 7, none⟩ = some _ := HB1.out.cell 7
 go_enter Tryz.func57, Tryz.ntmps57
 go_wp2_with fail
 rw [← HW1.out]
 go_ret2
 exact OnRet.same HO.out HI.out rfl (fun x hx => by cases hx; rfl) HL1.out
set_option maxRecDepth 100000 in
set_option maxHeartbeats 4000000 in
theorem on_none (h : Lies w0 W l) (i : Nat) (hi : l[i]? = some (stT q)) (n : InstrD) (kv vv : Value) (hkt : ∃ a c, kv = .slice a n.key.length c) (hvt : ∃ a c, vv = .slice a n.vals.length c) (ho : n.op < 10 ∨ 13 < n.op) :
  Calls Tryz.prog 57 #[.pointer (some ⟨q.sb, 0, none⟩), n.val kv vv] W (OnRet w0 l i q n) := by
 obtain ⟨op, node, mode, tab, row, col, var, dst, eq, fro, upto, key, vals⟩ := n
 simp only at hkt hvt ho ⊢
 obtain ⟨ka, kc, rfl⟩ := hkt
 obtain ⟨va, vc, rfl⟩ := hvt
 simp only [InstrD.val]
 obtain ⟨w1, hw1⟩ : ∃ w1, w1 = W.alloc (.cells #[.int .u8 op, .int .i64 node, .int .u8 mode, .int .i64 tab, .bool row, .int .i64 col, .int .i64 var, .int .i64 dst, .bool eq, .int .i64 fro, .int .i64 upto, .slice ka key.length kc, .slice va vals.length vc] 81) := ⟨_, rfl⟩
 have HF1 : Hid (Fr W w1 Nil) := by rw [hw1]; exact Lib.hid ((Fr.refl W Nil).alloc _)
 have HB1 : Hid (Bk w1 W.heap.size 81 #[.int .u8 op, .int .i64 node, .int .u8 mode, .int .i64 tab, .bool row, .int .i64 col, .int .i64 var, .int .i64 dst, .bool eq, .int .i64 fro, .int .i64 upto, .slice ka key.length kc, .slice va vals.length vc].toList) := by rw [hw1]; exact Lib.hid (Bk.new W _ _)
 have HL1 := Lib.hid (h.fr0 HF1.out)
 have HI := Lib.hid hi
 have HW1 := Lib.hid hw1
 have HVB : Hid (∀ k, q.vv.ownBlock = some k → k < W.heap.size) := Lib.hid (h.st i hi).2.1.lt
 clear h hi hw1
 have HO : Hid (onP ⟨op, node, mode, tab, row, col, var, dst, eq, fro, upto, key, vals⟩ q.vars = (q.vars, none)) := by
  have : onP ⟨op, node, mode, tab, row, col, var, dst, eq, fro, upto, key, vals⟩ q.vars = (q.vars, none) := by
   unfold onP
   rw [if_neg (by simp only; omega), if_neg (by simp only; omega), if_neg (by simp only; omega), if_neg (by simp only; omega)]
  exact this
 have e10 : (op == 10) = false := by rw [beq_eq_false_iff_ne]; omega
 have e11 : (op == 11) = false := by rw [beq_eq_false_iff_ne]; omega
 have e12 : (op == 12) = false := by rw [beq_eq_false_iff_ne]; omega
 have e13 : (op == 13) = false := by rw [beq_eq_false_iff_ne]; omega
 clear ho
 go_enter Tryz.func57, Tryz.ntmps57
 go_wp2_with fail
 rw [← HW1.out]
 go_ret2
 exact OnRet.same HO.out HI.out rfl (fun x hx => by cases hx) HL1.out
set_option maxRecDepth 100000 in
set_option maxHeartbeats 4000000 in
theorem on_unless (h : Lies w0 W l) (i : Nat) (hi : l[i]? = some (stT q)) (n : InstrD) (kv vv : Value) (hkt : TermsAt W kv n.key) (hvt : ValsAt W vv n.vals) (hfv : FewT n.vals) (hvl : q.vars.length ≤ 100000) (h11 : n.op = 11) (h2 : 1 < n.vals.length) :
  Calls Tryz.prog 57 #[.pointer (some ⟨q.sb, 0, none⟩), n.val kv vv] W (OnRet w0 l i q n) := by
 obtain ⟨op, node, mode, tab, row, col, var, dst, eq, fro, upto, key, vals⟩ := n
 simp only at hkt hvt hfv h11 h2 ⊢
 obtain ⟨ka, kc, rfl⟩ := hkt.shape
 obtain ⟨va, vc, rfl⟩ := hvt.shape
 simp only [InstrD.val]
 obtain ⟨w1, hw1⟩ : ∃ w1, w1 = W.alloc (.cells #[.int .u8 op, .int .i64 node, .int .u8 mode, .int .i64 tab, .bool row, .int .i64 col, .int .i64 var, .int .i64 dst, .bool eq, .int .i64 fro, .int .i64 upto, .slice ka key.length kc, .slice va vals.length vc] 81) := ⟨_, rfl⟩
 have HF1 : Hid (Fr W w1 Nil) := by rw [hw1]; exact Lib.hid ((Fr.refl W Nil).alloc _)
 have HB1 : Hid (Bk w1 W.heap.size 81 #[.int .u8 op, .int .i64 node, .int .u8 mode, .int .i64 tab, .bool row, .int .i64 col, .int .i64 var, .int .i64 dst, .bool eq, .int .i64 fro, .int .i64 upto, .slice ka key.length kc, .slice va vals.length vc].toList) := by rw [hw1]; exact Lib.hid (Bk.new W _ _)
 have HL1 := Lib.hid (h.fr0 HF1.out)
 have HVT := Lib.hid (hvt.fr0 HF1.out)
 have HI := Lib.hid hi
 have HFV := Lib.hid hfv
 have HVL := Lib.hid hvl
 have HW1 := Lib.hid hw1
 have HVB : Hid (∀ k, q.vv.ownBlock = some k → k < W.heap.size) := Lib.hid (h.st i hi).2.1.lt
 clear h hkt hvt hi hfv hw1
 subst h11
 obtain ⟨xb, xoff, xa, xc, rfl, hx0, hxt⟩ := HVT.out.get 0 (by omega)
 obtain ⟨yb, yoff, ya, yc, eyb, hy0, hyt⟩ := HVT.out.get 1 h2
 cases eyb
 have hxl : (vals.getD 0 []).length ≤ 100000 := by
  rw [List.getD_eq_getElem?_getD, List.getElem?_eq_getElem (by omega)]
  exact HFV.out.2 _ (List.getElem_mem (by omega))
 have hyl : (vals.getD 1 []).length ≤ 100000 := by
  rw [List.getD_eq_getElem?_getD, List.getElem?_eq_getElem h2]
  exact HFV.out.2 _ (List.getElem_mem h2)
 have HO : Hid (∀ a b, a = valP q.vars (vals.getD 0 []) → b = valP q.vars (vals.getD 1 []) → onP ⟨11, node, mode, tab, row, col, var, dst, eq, fro, upto, key, vals⟩ q.vars = (q.vars, if (eq && !decide (a = b)) || (!eq && decide (b ≤ a)) then some dst else none)) := fun a b ha hb => by rw [ha, hb]; exact rfl
 have HXT := Lib.hid hxt
 have HYT := Lib.hid hyt
 simp only [Nat.add_zero] at hx0
 have kx0 := KeptF.cell hx0
 have ky0 := KeptF.cell hy0
 generalize vals.getD 0 [] = x at *
 generalize vals.getD 1 [] = y at *
 have k12 := KeptF.cell (w0 := w1) (show w1.cell? ⟨W.heap.size, 12, none⟩ = some _ from HB1.out.cell 12)
 have c0 : w1.cell? ⟨W.heap.size, 0, none⟩ = some _ := HB1.out.cell 0
 have h0v : 0 < vals.length := by omega
 have h2v : (1 : Int) < (vals.length : Int) := by omega
 clear hx0 hxt hy0 hyt
 go_enter Tryz.func57, Tryz.ntmps57
 go_wp2_with fail
 rw [← HW1.out]
 clear c0
 refine wp_region_sink 13 (KeptF w1) (by kernel_rfl) ?_
 have hSa : KeptF w1 w1.drew := KeptF.start _
 refine tk 0 hSa ?_
 refine tk 1 hSa ?_
 try simp only [Act.put, sA, sB, sC]
 refine tk 2 hSa ?_ (hy := by intro _ w; have ck12 := k12 _ w; go_simp <;> with_reducible rfl)
 try simp only [Act.put, sA, sB, sC]
 refine tk 3 hSa ?_
 try simp only [Act.put, sA, sB, sC]
 refine tk 4 hSa ?_ (hy := by intro _ w; have ckx0 := kx0 _ w; go_simp <;> with_reducible rfl)
 try simp only [Act.put, sA, sB, sC]
 refine tk 6 hSa ?_
 refine tk 7 hSa ?_
 try simp only [Act.put, sA, sB, sC]
 refine tk 8 hSa ?_ (hy := by intro _ w; have ck12 := k12 _ w; go_simp <;> with_reducible rfl)
 try simp only [Act.put, sA, sB, sC]
 refine tk 9 hSa ?_
 try simp only [Act.put, sA, sB, sC]
 refine tk 10 hSa ?_ (hy := by intro _ w; have cky0 := ky0 _ w; go_simp <;> with_reducible rfl)
 try simp only [Act.put, sA, sB, sC]
 refine on1 5 fun K hK => ?_
 go_simp
 refine (value_any q _ x _ ((HL1.out.fr0 (KeptF.fr hSa)).stR i HI.out) (HXT.out.fr0 (KeptF.fr hSa)) hxl (by omega)).mono ?_
 rintro e w6 ⟨rfl, hfw6⟩
 have hSb := KeptF.next hSa hfw6
 refine hK.out _ _ hSb ?_
 clear hK K
 try simp only [Act.put, sA, sB, sC]
 refine on1 11 fun K hK => ?_
 go_simp
 refine (value_any q _ y _ ((HL1.out.fr0 (KeptF.fr hSb)).stR i HI.out) (HYT.out.fr0 (KeptF.fr hSb)) hyl (by omega)).mono ?_
 rintro e w7 ⟨rfl, hfw7⟩
 have hSc := KeptF.next hSb hfw7
 refine hK.out _ _ hSc ?_
 clear hK K
 try simp only [Act.put, sA, sB, sC]
 obtain ⟨a, ha⟩ : ∃ a, a = valP q.vars x := ⟨_, rfl⟩
 obtain ⟨b, hb⟩ : ∃ b, b = valP q.vars y := ⟨_, rfl⟩
 rw [← ha, ← hb]
 have HO2 := Lib.hid (HO.out a b ha hb)
 clear ha hb
 refine tk 12 hSc ?_
 try simp only [Act.put, sA, sB, sC]
 refine wpAnyS_last (i := 13) rfl (by kernel_rfl) (by decide) (by kernel_rfl) (by rfl) fun K hK => ?_
 go_simp
 refine hK.out _ _ ?_
 have HLc := Lib.hid (HL1.out.fr0 (KeptF.fr hSc))
 have d7 : w7.cell? ⟨W.heap.size, 7, none⟩ = some _ := (KeptF.fr hSc).cell (HB1.out.cell 7) fun h => h
 have d8 : w7.cell? ⟨W.heap.size, 8, none⟩ = some _ := (KeptF.fr hSc).cell (HB1.out.cell 8) fun h => h
 clear hK K hSa hSb hSc hfw6 hfw7 k12 kx0 ky0
 cases eq
 ·by_cases hab : b ≤ a
  ·have HX : Hid (onP ⟨11, node, mode, tab, row, col, var, dst, false, fro, upto, key, vals⟩ q.vars = (q.vars, some dst)) := by rw [HO2.out]; exact Lib.hid (by simp [hab])
   go_wp2_with fail
   go_ret2
   exact OnRet.same HX.out HI.out rfl (fun x hx => by cases hx; rfl) HLc.out
  ·have HX : Hid (onP ⟨11, node, mode, tab, row, col, var, dst, false, fro, upto, key, vals⟩ q.vars = (q.vars, none)) := by rw [HO2.out]; exact Lib.hid (by simp [hab])
   go_wp2_with fail
   go_ret2
   exact OnRet.same HX.out HI.out rfl (fun x hx => by cases hx) HLc.out
 ·by_cases hab : a = b
  ·have HX : Hid (onP ⟨11, node, mode, tab, row, col, var, dst, true, fro, upto, key, vals⟩ q.vars = (q.vars, none)) := by rw [HO2.out]; exact Lib.hid (by simp [hab])
   have f1 : (a != b) = false := by rw [bne_eq_false_iff_eq]; exact hab
   clear hab
   go_wp2_with fail
   go_ret2
   exact OnRet.same HX.out HI.out rfl (fun x hx => by cases hx) HLc.out
  ·have HX : Hid (onP ⟨11, node, mode, tab, row, col, var, dst, true, fro, upto, key, vals⟩ q.vars = (q.vars, some dst)) := by rw [HO2.out]; exact Lib.hid (by simp [hab])
   have f1 : (a != b) = true := by rw [bne_iff_ne]; exact hab
   clear hab
   go_wp2_with fail
   go_ret2
   exact OnRet.same HX.out HI.out rfl (fun x hx => by cases hx; rfl) HLc.out
set_option maxRecDepth 100000 in
set_option maxHeartbeats 4000000 in
theorem on_begin (h : Lies w0 W l) (i : Nat) (hi : l[i]? = some (stT q)) (n : InstrD) (kv vv : Value) (hkt : TermsAt W kv n.key) (hvt : ValsAt W vv n.vals) (hfv : FewT n.vals) (hvl : q.vars.length ≤ 100000) (h12 : n.op = 12) (hv0 : 0 ≤ n.var ∧ n.var < q.vars.length) :
  Calls Tryz.prog 57 #[.pointer (some ⟨q.sb, 0, none⟩), n.val kv vv] W (OnRet w0 l i q n) := by
 obtain ⟨op, node, mode, tab, row, col, var, dst, eq, fro, upto, key, vals⟩ := n
 simp only at hkt hvt hfv h12 hv0 ⊢
 obtain ⟨ka, kc, rfl⟩ := hkt.shape
 obtain ⟨va, vc, rfl⟩ := hvt.shape
 simp only [InstrD.val]
 obtain ⟨w1, hw1⟩ : ∃ w1, w1 = W.alloc (.cells #[.int .u8 op, .int .i64 node, .int .u8 mode, .int .i64 tab, .bool row, .int .i64 col, .int .i64 var, .int .i64 dst, .bool eq, .int .i64 fro, .int .i64 upto, .slice ka key.length kc, .slice va vals.length vc] 81) := ⟨_, rfl⟩
 have HF1 : Hid (Fr W w1 Nil) := by rw [hw1]; exact Lib.hid ((Fr.refl W Nil).alloc _)
 have HB1 : Hid (Bk w1 W.heap.size 81 #[.int .u8 op, .int .i64 node, .int .u8 mode, .int .i64 tab, .bool row, .int .i64 col, .int .i64 var, .int .i64 dst, .bool eq, .int .i64 fro, .int .i64 upto, .slice ka key.length kc, .slice va vals.length vc].toList) := by rw [hw1]; exact Lib.hid (Bk.new W _ _)
 have HL1 := Lib.hid (h.fr0 HF1.out)
 have HVT := Lib.hid (hvt.fr0 HF1.out)
 have HI := Lib.hid hi
 have HFV := Lib.hid hfv
 have HVL := Lib.hid hvl
 have HW1 := Lib.hid hw1
 have HVB : Hid (∀ k, q.vv.ownBlock = some k → k < W.heap.size) := Lib.hid (h.st i hi).2.1.lt
 have HVB : Hid (∀ k, q.vv.ownBlock = some k → k < W.heap.size) := Lib.hid (h.st i hi).2.1.lt
 clear h hkt hvt hi hfv hw1
 subst h12
 obtain ⟨m, rfl⟩ : ∃ m : Nat, var = (m : Int) := ⟨var.toNat, by omega⟩
 have hm : m < q.vars.length := by omega
 have HO : Hid (onP ⟨12, node, mode, tab, row, col, m, dst, eq, fro, upto, key, vals⟩ q.vars = (q.vars.set m fro, if upto < fro then some dst else none)) := Lib.hid rfl
 obtain ⟨vb, vcap, ev, c3, d4, d5, d6⟩ := HL1.out.box i HI.out m hm
 have hvne : W.heap.size ≠ vb := fun e => by
  have := HVB.out vb (by rw [ev]; rfl)
  omega
 have k30 := KeptF.cell c3
 have k6 := KeptF.cell (w0 := w1) (show w1.cell? ⟨W.heap.size, 6, none⟩ = some _ from HB1.out.cell 6)
 have k9 := KeptF.cell (w0 := w1) (show w1.cell? ⟨W.heap.size, 9, none⟩ = some _ from HB1.out.cell 9)
 have c0 : w1.cell? ⟨W.heap.size, 0, none⟩ = some _ := HB1.out.cell 0
 clear c3 ev
 go_enter Tryz.func57, Tryz.ntmps57
 go_wp2_with fail
 rw [← HW1.out]
 clear c0
 refine wp_region_sink 9 (KeptF w1) (by kernel_rfl) ?_
 have hSa : KeptF w1 w1.drew := KeptF.start _
 refine tk 0 hSa ?_
 refine tk 1 hSa ?_
 refine tk 2 hSa ?_
 try simp only [Act.put, sA, sB, sC]
 refine tk 3 hSa ?_ (hy := by intro _ w; have ck30 := k30 _ w; go_simp <;> with_reducible rfl)
 try simp only [Act.put, sA, sB, sC]
 refine tk 4 hSa ?_
 try simp only [Act.put, sA, sB, sC]
 refine tk 5 hSa ?_ (hy := by intro _ w; have ck6 := k6 _ w; go_simp <;> with_reducible rfl)
 try simp only [Act.put, sA, sB, sC]
 refine tk 6 hSa ?_
 try simp only [Act.put, sA, sB, sC]
 refine tk 7 hSa ?_ (hy := by intro _ w; have ck9 := k9 _ w; go_simp <;> with_reducible rfl)
 try simp only [Act.put, sA, sB, sC]
 refine tk 8 hSa ?_
 try simp only [Act.put, sA, sB, sC]
 refine wpAnyS_last (i := 9) rfl (by kernel_rfl) (by decide) (by kernel_rfl) (by rfl) fun K hK => ?_
 go_simp
 refine hK.out _ _ ?_
 clear hK K d4 d5 hSa k30 k6 k9
 obtain ⟨w2, hw2⟩ : ∃ w2, w2 = (w1.setCell ⟨vb, m, none⟩ (.int .i64 (fro))).drew := ⟨_, rfl⟩
 have D6 := Lib.hid ((d6 (fro)).fr0 ((Fr.refl _ Nil).drew))
 rw [← hw2] at D6 ⊢
 have HB2 : Hid (Bk w2 W.heap.size 81 #[.int .u8 12, .int .i64 node, .int .u8 mode, .int .i64 tab, .bool row, .int .i64 col, .int .i64 m, .int .i64 dst, .bool eq, .int .i64 fro, .int .i64 upto, .slice ka key.length kc, .slice va vals.length vc].toList) := by rw [hw2]; exact Lib.hid (HB1.out.fr (Fr.store w1 vb m (.int .i64 (fro))).drew hvne)
 clear hw2 d6
 have j7 := KeptF.cell (w0 := w2) (show w2.cell? ⟨W.heap.size, 7, none⟩ = some _ from HB2.out.cell 7)
 have j9 := KeptF.cell (w0 := w2) (show w2.cell? ⟨W.heap.size, 9, none⟩ = some _ from HB2.out.cell 9)
 have j10 := KeptF.cell (w0 := w2) (show w2.cell? ⟨W.heap.size, 10, none⟩ = some _ from HB2.out.cell 10)
 go_wp2_with fail
 refine wp_region_sink 8 (KeptF w2) (by kernel_rfl) ?_
 have hSa : KeptF w2 w2.drew := KeptF.start _
 have D7 := Lib.hid (D6.out.fr0 (KeptF.fr hSa))
 by_cases hlt : upto < fro
 ·have d1 : decide (upto < fro) = true := decide_eq_true hlt
  have HX : Hid (onP ⟨12, node, mode, tab, row, col, m, dst, eq, fro, upto, key, vals⟩ q.vars = (q.vars.set m fro, some dst)) := by rw [HO.out]; exact Lib.hid (by rw [if_pos hlt])
  refine tk 0 hSa ?_
  try simp only [Act.put, sA, sB, sC]
  refine tk 1 hSa ?_ (hy := by intro _ w; have cj7 := j7 _ w; go_simp <;> with_reducible rfl)
  try simp only [Act.put, sA, sB, sC]
  refine tk 2 hSa ?_
  try simp only [Act.put, sA, sB, sC]
  refine tk 3 hSa ?_ (hy := by intro _ w; have cj9 := j9 _ w; go_simp <;> with_reducible rfl)
  try simp only [Act.put, sA, sB, sC]
  refine tk 4 hSa ?_
  try simp only [Act.put, sA, sB, sC]
  refine tk 5 hSa ?_ (hy := by intro _ w; have cj10 := j10 _ w; go_simp <;> with_reducible rfl)
  try simp only [Act.put, sA, sB, sC]
  refine tk 6 hSa ?_
  refine tk 7 hSa ?_
  try simp only [Act.put, sA, sB, sC]
  refine wpAnyS_last (i := 8) rfl (by kernel_rfl) (by decide) (by kernel_rfl) (by rfl) fun K hK => ?_
  go_simp
  refine hK.out _ _ ?_
  clear hK K hSa j7 j9 j10 d1
  go_wp2_with fail
  go_ret2
  exact OnRet.turned HX.out rfl (fun x hx => by cases hx; rfl) D7.out
 ·have d1 : decide (upto < fro) = false := decide_eq_false hlt
  have HX : Hid (onP ⟨12, node, mode, tab, row, col, m, dst, eq, fro, upto, key, vals⟩ q.vars = (q.vars.set m fro, none)) := by rw [HO.out]; exact Lib.hid (by rw [if_neg hlt])
  refine tk 0 hSa ?_
  try simp only [Act.put, sA, sB, sC]
  refine tk 1 hSa ?_ (hy := by intro _ w; have cj7 := j7 _ w; go_simp <;> with_reducible rfl)
  try simp only [Act.put, sA, sB, sC]
  refine tk 2 hSa ?_
  try simp only [Act.put, sA, sB, sC]
  refine tk 3 hSa ?_ (hy := by intro _ w; have cj9 := j9 _ w; go_simp <;> with_reducible rfl)
  try simp only [Act.put, sA, sB, sC]
  refine tk 4 hSa ?_
  try simp only [Act.put, sA, sB, sC]
  refine tk 5 hSa ?_ (hy := by intro _ w; have cj10 := j10 _ w; go_simp <;> with_reducible rfl)
  try simp only [Act.put, sA, sB, sC]
  refine tk 6 hSa ?_
  refine tk 7 hSa ?_
  try simp only [Act.put, sA, sB, sC]
  refine wpAnyS_last (i := 8) rfl (by kernel_rfl) (by decide) (by kernel_rfl) (by rfl) fun K hK => ?_
  go_simp
  refine hK.out _ _ ?_
  clear hK K hSa j7 j9 j10 d1
  go_wp2_with fail
  go_ret2
  exact OnRet.turned HX.out rfl (fun x hx => by cases hx) D7.out
set_option maxRecDepth 100000 in
set_option maxHeartbeats 4000000 in
theorem on_next (h : Lies w0 W l) (i : Nat) (hi : l[i]? = some (stT q)) (n : InstrD) (kv vv : Value) (hkt : TermsAt W kv n.key) (hvt : ValsAt W vv n.vals) (hfv : FewT n.vals) (hvl : q.vars.length ≤ 100000) (h13 : n.op = 13) (hv0 : 0 ≤ n.var ∧ n.var < q.vars.length) :
  Calls Tryz.prog 57 #[.pointer (some ⟨q.sb, 0, none⟩), n.val kv vv] W (OnRet w0 l i q n) := by
 obtain ⟨op, node, mode, tab, row, col, var, dst, eq, fro, upto, key, vals⟩ := n
 simp only at hkt hvt hfv h13 hv0 ⊢
 obtain ⟨ka, kc, rfl⟩ := hkt.shape
 obtain ⟨va, vc, rfl⟩ := hvt.shape
 simp only [InstrD.val]
 obtain ⟨w1, hw1⟩ : ∃ w1, w1 = W.alloc (.cells #[.int .u8 op, .int .i64 node, .int .u8 mode, .int .i64 tab, .bool row, .int .i64 col, .int .i64 var, .int .i64 dst, .bool eq, .int .i64 fro, .int .i64 upto, .slice ka key.length kc, .slice va vals.length vc] 81) := ⟨_, rfl⟩
 have HF1 : Hid (Fr W w1 Nil) := by rw [hw1]; exact Lib.hid ((Fr.refl W Nil).alloc _)
 have HB1 : Hid (Bk w1 W.heap.size 81 #[.int .u8 op, .int .i64 node, .int .u8 mode, .int .i64 tab, .bool row, .int .i64 col, .int .i64 var, .int .i64 dst, .bool eq, .int .i64 fro, .int .i64 upto, .slice ka key.length kc, .slice va vals.length vc].toList) := by rw [hw1]; exact Lib.hid (Bk.new W _ _)
 have HL1 := Lib.hid (h.fr0 HF1.out)
 have HVT := Lib.hid (hvt.fr0 HF1.out)
 have HI := Lib.hid hi
 have HFV := Lib.hid hfv
 have HVL := Lib.hid hvl
 have HW1 := Lib.hid hw1
 have HVB : Hid (∀ k, q.vv.ownBlock = some k → k < W.heap.size) := Lib.hid (h.st i hi).2.1.lt
 have HVB : Hid (∀ k, q.vv.ownBlock = some k → k < W.heap.size) := Lib.hid (h.st i hi).2.1.lt
 clear h hkt hvt hi hfv hw1
 subst h13
 obtain ⟨m, rfl⟩ : ∃ m : Nat, var = (m : Int) := ⟨var.toNat, by omega⟩
 have hm : m < q.vars.length := by omega
 obtain ⟨vb, vcap, ev, c3, d4, d5, d6⟩ := HL1.out.box i HI.out m hm
 have hvne : W.heap.size ≠ vb := fun e => by
  have := HVB.out vb (by rw [ev]; rfl)
  omega
 have k30 := KeptF.cell c3
 obtain ⟨x, hx⟩ : ∃ x, x = q.vars.getD m 0 := ⟨_, rfl⟩
 rw [← hx] at d4
 have HO : Hid (onP ⟨13, node, mode, tab, row, col, m, dst, eq, fro, upto, key, vals⟩ q.vars = if x < upto then (q.vars.set m (wrap64 (x + 1)), some dst) else (q.vars, none)) := by rw [hx]; exact Lib.hid rfl
 have kx := KeptF.cell d4
 clear hx
 have k6 := KeptF.cell (w0 := w1) (show w1.cell? ⟨W.heap.size, 6, none⟩ = some _ from HB1.out.cell 6)
 have k10 := KeptF.cell (w0 := w1) (show w1.cell? ⟨W.heap.size, 10, none⟩ = some _ from HB1.out.cell 10)
 have c0 : w1.cell? ⟨W.heap.size, 0, none⟩ = some _ := HB1.out.cell 0
 clear c3 ev
 go_enter Tryz.func57, Tryz.ntmps57
 go_wp2_with fail
 rw [← HW1.out]
 clear c0
 refine wp_region_sink 10 (KeptF w1) (by kernel_rfl) ?_
 have hSa : KeptF w1 w1.drew := KeptF.start _
 by_cases hlt : x < upto
 ·have d1 : decide (x < upto) = true := decide_eq_true hlt
  have HX : Hid (onP ⟨13, node, mode, tab, row, col, m, dst, eq, fro, upto, key, vals⟩ q.vars = (q.vars.set m (wrap64 (x + 1)), some dst)) := by rw [HO.out]; exact Lib.hid (by rw [if_pos hlt])
  refine tk 0 hSa ?_
  refine tk 1 hSa ?_
  refine tk 2 hSa ?_
  try simp only [Act.put, sA, sB, sC]
  refine tk 3 hSa ?_ (hy := by intro _ w; have ck30 := k30 _ w; go_simp <;> with_reducible rfl)
  try simp only [Act.put, sA, sB, sC]
  refine tk 4 hSa ?_
  try simp only [Act.put, sA, sB, sC]
  refine tk 5 hSa ?_ (hy := by intro _ w; have ck6 := k6 _ w; go_simp <;> with_reducible rfl)
  try simp only [Act.put, sA, sB, sC]
  refine tk 6 hSa ?_
  try simp only [Act.put, sA, sB, sC]
  refine tk 7 hSa ?_ (hy := by intro _ w; have ckx := kx _ w; go_simp <;> with_reducible rfl)
  try simp only [Act.put, sA, sB, sC]
  refine tk 8 hSa ?_
  try simp only [Act.put, sA, sB, sC]
  refine tk 9 hSa ?_ (hy := by intro _ w; have ck10 := k10 _ w; go_simp <;> with_reducible rfl)
  try simp only [Act.put, sA, sB, sC]
  refine wpAnyS_last (i := 10) rfl (by kernel_rfl) (by decide) (by kernel_rfl) (by rfl) fun K hK => ?_
  go_simp
  refine hK.out _ _ ?_
  clear hK K
  have m30 := fun w h => k30 w (Fr.trans0 (KeptF.fr hSa) h)
  have m6 := fun w h => k6 w (Fr.trans0 (KeptF.fr hSa) h)
  have mx := fun w h => kx w (Fr.trans0 (KeptF.fr hSa) h)
  go_wp2_with fail
  refine wp_region_sink 10 (KeptF w1.drew) (by kernel_rfl) ?_
  have hSb : KeptF w1.drew w1.drew.drew := KeptF.start _
  refine tk 0 hSb ?_
  refine tk 1 hSb ?_
  refine tk 2 hSb ?_
  try simp only [Act.put, sA, sB, sC]
  refine tk 3 hSb ?_ (hy := by intro _ w; have cm30 := m30 _ w; go_simp <;> with_reducible rfl)
  try simp only [Act.put, sA, sB, sC]
  refine tk 4 hSb ?_
  try simp only [Act.put, sA, sB, sC]
  refine tk 5 hSb ?_ (hy := by intro _ w; have cm6 := m6 _ w; go_simp <;> with_reducible rfl)
  try simp only [Act.put, sA, sB, sC]
  refine tk 6 hSb ?_
  try simp only [Act.put, sA, sB, sC]
  refine tk 7 hSb ?_ (hy := by intro _ w; have cmx := mx _ w; go_simp <;> with_reducible rfl)
  try simp only [Act.put, sA, sB, sC]
  refine tk 8 hSb ?_
  refine tk 9 hSb ?_
  try simp only [Act.put, sA, sB, sC]
  refine wpAnyS_last (i := 10) rfl (by kernel_rfl) (by decide) (by kernel_rfl) (by rfl) fun K hK => ?_
  go_simp
  refine hK.out _ _ ?_
  clear hK K d4 d5 hSa hSb k30 k6 k10 kx m30 m6 mx d1
  rw [wrap_is]
  obtain ⟨w2, hw2⟩ : ∃ w2, w2 = (w1.setCell ⟨vb, m, none⟩ (.int .i64 (wrap64 (x + 1)))).drew.drew := ⟨_, rfl⟩
  have D6 := Lib.hid ((d6 (wrap64 (x + 1))).fr0 ((Fr.refl _ Nil).drew.drew))
  have z7 : w2.cell? ⟨W.heap.size, 7, none⟩ = some (.int .i64 dst) := by rw [hw2]; exact (HB1.out.fr (Fr.store w1 vb m (.int .i64 (wrap64 (x + 1)))).drew.drew hvne).cell 7
  rw [← hw2] at D6 ⊢
  clear hw2 d6
  go_wp2_with fail
  go_ret2
  exact OnRet.turned HX.out rfl (fun x hx => by cases hx; rfl) D6.out
 ·have d1 : decide (x < upto) = false := decide_eq_false hlt
  have HX : Hid (onP ⟨13, node, mode, tab, row, col, m, dst, eq, fro, upto, key, vals⟩ q.vars = (q.vars, none)) := by rw [HO.out]; exact Lib.hid (by rw [if_neg hlt])
  refine tk 0 hSa ?_
  refine tk 1 hSa ?_
  refine tk 2 hSa ?_
  try simp only [Act.put, sA, sB, sC]
  refine tk 3 hSa ?_ (hy := by intro _ w; have ck30 := k30 _ w; go_simp <;> with_reducible rfl)
  try simp only [Act.put, sA, sB, sC]
  refine tk 4 hSa ?_
  try simp only [Act.put, sA, sB, sC]
  refine tk 5 hSa ?_ (hy := by intro _ w; have ck6 := k6 _ w; go_simp <;> with_reducible rfl)
  try simp only [Act.put, sA, sB, sC]
  refine tk 6 hSa ?_
  try simp only [Act.put, sA, sB, sC]
  refine tk 7 hSa ?_ (hy := by intro _ w; have ckx := kx _ w; go_simp <;> with_reducible rfl)
  try simp only [Act.put, sA, sB, sC]
  refine tk 8 hSa ?_
  try simp only [Act.put, sA, sB, sC]
  refine tk 9 hSa ?_ (hy := by intro _ w; have ck10 := k10 _ w; go_simp <;> with_reducible rfl)
  try simp only [Act.put, sA, sB, sC]
  refine wpAnyS_last (i := 10) rfl (by kernel_rfl) (by decide) (by kernel_rfl) (by rfl) fun K hK => ?_
  go_simp
  refine hK.out _ _ ?_
  clear hK K
  have D7 := Lib.hid (HL1.out.fr0 (KeptF.fr hSa))
  clear d4 d5 d6 hSa k30 k6 k10 kx d1
  go_wp2_with fail
  go_ret2
  exact OnRet.same HX.out HI.out rfl (fun x hx => by cases hx) D7.out
theorem on_any (h : Lies w0 W l) (i : Nat) (hi : l[i]? = some (stT q)) (n : InstrD) (kv vv : Value) (hkt : TermsAt W kv n.key) (hvt : ValsAt W vv n.vals) (hfv : FewT n.vals) (hvl : q.vars.length ≤ 100000) {TB : List Int} {size : Nat} (hok : IOk TB q.vars.length size n) :
  Calls Tryz.prog 57 #[.pointer (some ⟨q.sb, 0, none⟩), n.val kv vv] W (OnRet w0 l i q n) := by
 by_cases h10 : n.op = 10
 ·exact on_jump h i hi n kv vv hkt hvt hfv hvl h10
 by_cases h11 : n.op = 11
 ·exact on_unless h i hi n kv vv hkt hvt hfv hvl h11 (by have := hok.two h11; omega)
 by_cases h12 : n.op = 12
 ·exact on_begin h i hi n kv vv hkt hvt hfv hvl h12 (hok.var (by omega))
 by_cases h13 : n.op = 13
 ·exact on_next h i hi n kv vv hkt hvt hfv hvl h13 (hok.var (by omega))
 exact on_none h i hi n kv vv hkt.shape hvt.shape (by have := hok.lo; omega)
theorem on_any' (h : Lies w0 W l) (i : Nat) (hi : l[i]? = some (stT q)) (n : InstrD) (kv vv : Value) (hks : ∃ a c, kv = .slice a n.key.length c) (hvs : ∃ a c, vv = .slice a n.vals.length c) (hkv : 10 ≤ n.op → TermsAt W kv n.key ∧ ValsAt W vv n.vals) (hfv : FewT n.vals) (hvl : q.vars.length ≤ 100000) {TB : List Int} {size : Nat} (hok : IOk TB q.vars.length size n) :
  Calls Tryz.prog 57 #[.pointer (some ⟨q.sb, 0, none⟩), n.val kv vv] W (OnRet w0 l i q n) := by
 by_cases h10 : 10 ≤ n.op
 ·exact on_any h i hi n kv vv (hkv h10).1 (hkv h10).2 hfv hvl hok
 ·exact on_none h i hi n kv vv hks hvs (by omega)
end
end Go.Proofs.YtgpekgnhbccnoaaGreat
namespace Go.Proofs.YtgpekgnhbccnoaaGreat
open Go Go.RowKit
attribute [local go_sem ↓] Go.wp_at_zero Go.wp_at_succ

def FewP (L : List InstrD) (TB : List Int) (nv : Int) (args : List Int) : Prop := L.length ≤ 60 ∧ TB.length ≤ 20 ∧ nv ≤ 40 ∧ args.length ≤ 40 ∧ FewC L
def FewRet (L : List InstrD) (TB : List Int) (nv : Int) (args : List Int) (w : World) (e : Ending) (w' : World) : Prop := ∃ b : Bool, e = .returned (.bool b) ∧ (b = true → FewP L TB nv args) ∧ w = w'
def FewI (L : List InstrD) (i : Nat) : Prop := ∀ (m : Nat) (n : InstrD), m < i → L[m]? = some n → n.key.length ≤ 100000 ∧ FewT n.vals
theorem FewI.zero (L : List InstrD) : FewI L 0 := fun m n hm => by omega
theorem FewI.succ {L : List InstrD} {i : Nat} {n : InstrD} (h : FewI L i) (hn : L[i]? = some n) (h1 : n.key.length ≤ 100000) (h2 : FewT n.vals) : FewI L (i + 1) := fun m n' hm hn' => by
 by_cases e : m = i
 ·subst e; rw [hn] at hn'; cases hn'; exact ⟨h1, h2⟩
 ·exact h m n' (by omega) hn'
theorem FewI.all {L : List InstrD} (h : FewI L L.length) (hl : L.length ≤ 60) : FewC L := ⟨by omega, fun n hn => by
 obtain ⟨m, hm⟩ := List.getElem?_of_mem hn
 exact h m n (List.getElem?_eq_some_iff.1 hm).1 hm⟩
def FewV (l : List (List TermD)) (k : Nat) : Prop := ∀ (m : Nat) (t : List TermD), m < k → l[m]? = some t → t.length ≤ 100000
theorem FewV.all {l : List (List TermD)} (h : FewV l l.length) (hl : l.length ≤ 20) : FewT l := ⟨by omega, fun t ht => by
 obtain ⟨m, hm⟩ := List.getElem?_of_mem ht
 exact h m t (List.getElem?_eq_some_iff.1 hm).1 hm⟩
theorem FewV.succ {l : List (List TermD)} {k : Nat} {t : List TermD} (h : FewV l k) (ht : l[k]? = some t) (h1 : t.length ≤ 100000) : FewV l (k + 1) := fun m t' hm ht' => by
 by_cases e : m = k
 ·subst e; rw [ht] at ht'; cases ht'; exact h1
 ·exact h m t' (by omega) ht'
section
variable (lv tv av : Value) (L : List InstrD) (TB args : List Int) (nv : Int) (w : World)
set_option maxRecDepth 100000 in
set_option maxHeartbeats 1000000 in
theorem few_not (h : CodeAt w lv L) (ht : IntsAt w tv TB) (ha : IntsAt w av args) (hq : ¬ (L.length ≤ 60 ∧ TB.length ≤ 20 ∧ nv ≤ 40 ∧ args.length ≤ 40)) :
  Calls Tryz.prog 6 #[lv, tv, .int .i64 nv, av] w (FewRet L TB nv args w) := by
 obtain ⟨la, lc, rfl⟩ := h.shape
 obtain ⟨ta, tc, rfl⟩ := ht.shape
 obtain ⟨aa, ac, rfl⟩ := ha.shape
 clear h ht ha
 have hq' : (60 : Int) < (L.length : Int) ∨ (¬ (60 : Int) < (L.length : Int) ∧ (20 : Int) < (TB.length : Int)) ∨ (¬ (60 : Int) < (L.length : Int) ∧ ¬ (20 : Int) < (TB.length : Int) ∧ 40 < nv) ∨ (¬ (60 : Int) < (L.length : Int) ∧ ¬ (20 : Int) < (TB.length : Int) ∧ ¬ 40 < nv ∧ (40 : Int) < (args.length : Int)) := by omega
 clear hq
 rcases hq' with h1 | ⟨h1, h2⟩ | ⟨h1, h2, h3⟩ | ⟨h1, h2, h3, h4⟩
 all_goals
  go_enter Tryz.func6, Tryz.ntmps6
  go_wp2_with fail
  go_ret
  exact ⟨false, rfl, (fun h => by cases h), rfl⟩
set_option maxRecDepth 100000 in
set_option maxHeartbeats 4000000 in
theorem few_yes (h : CodeAt w lv L) (ht : IntsAt w tv TB) (ha : IntsAt w av args) (hq1 : L.length ≤ 60) (hq2 : TB.length ≤ 20) (hq3 : nv ≤ 40) (hq4 : args.length ≤ 40) :
  Calls Tryz.prog 6 #[lv, tv, .int .i64 nv, av] w (FewRet L TB nv args w) := by
 obtain ⟨la, lc, rfl⟩ := h.shape
 obtain ⟨ta, tc, rfl⟩ := ht.shape
 obtain ⟨aa, ac, rfl⟩ := ha.shape
 have H := Lib.hid h
 have h1 : ¬ (60 : Int) < (L.length : Int) := by omega
 have h2 : ¬ (20 : Int) < (TB.length : Int) := by omega
 have h3 : ¬ 40 < nv := by omega
 have h4 : ¬ (40 : Int) < (args.length : Int) := by omega
 clear h ht ha
 go_enter Tryz.func6, Tryz.ntmps6
 go_wp2_with fail
 go_loop [9, 10] (fun vn vi => ∃ (n : Int) (i : Nat), i ≤ L.length ∧ vi = .int .i64 i ∧ vn = .int .i64 n ∧ 0 ≤ n ∧ n ≤ 1000 ∧ FewI L i) (fun _ vi => L.length - (intOf vi).toNat)
 case atStart => exact ⟨0, 0, by omega, rfl, rfl, by omega, by omega, FewI.zero L⟩
 case round =>
  obtain ⟨n, i, hi, rfl, rfl, hn0, hn1, hfi⟩ := hrel
  have HI := Lib.hid hfi
  clear hfi
  by_cases hlt : i < L.length
  ·obtain ⟨b, off, cap, hlv, hlc⟩ := H.out.form (by omega)
   simp only [Value.slice.injEq, true_and] at hlv
   obtain ⟨rfl, rfl⟩ := hlv
   have hx := List.getElem?_eq_getElem hlt
   have HX := Lib.hid hx
   generalize L[i] = x at hx HX
   obtain ⟨ka, kc, va, vc, hkt, hvt, p0, p1, p2, p3, p4, p5, p6, p7, p8, p9, p10, p11, p12⟩ := (hlc i x hx).cell
   have HV := Lib.hid hvt
   have hii : (i : Int) < (L.length : Int) := by omega
   clear hx hlc hkt hvt p0 p1 p2 p3 p4 p5 p6 p7 p8 p9 p10
   obtain ⟨kl, hkl⟩ : ∃ kl : Nat, kl = x.key.length := ⟨_, rfl⟩
   obtain ⟨vl, hvl⟩ : ∃ vl : Nat, vl = x.vals.length := ⟨_, rfl⟩
   rw [← hkl] at p11
   rw [← hvl] at p12
   have HKL := Lib.hid hkl
   have HVL := Lib.hid hvl
   clear hkl hvl
   by_cases hk : (1000 - n) < (kl : Int)
   ·go_wp2_with fail
    go_ret
    exact ⟨false, rfl, (fun h => by cases h), rfl⟩
   ·by_cases hv : (20 : Int) < (vl : Int)
    ·go_wp2_with fail
     go_ret
     exact ⟨false, rfl, (fun h => by cases h), rfl⟩
    ·go_wp2_with fail
     go_loop [9, 11] (fun vn vi => ∃ (n' : Int) (k : Nat), k ≤ vl ∧ vi = .int .i64 k ∧ vn = .int .i64 n' ∧ 0 ≤ n' ∧ n' ≤ 1000 ∧ FewV x.vals k) (fun _ vi => vl - (intOf vi).toNat)
     case atStart => exact ⟨n + kl, 0, by omega, rfl, rfl, by omega, by omega, fun m t hm => by omega⟩
     case round =>
      obtain ⟨n', k, hk', rfl, rfl, hm0, hm1, hfv⟩ := hrel
      have HFV := Lib.hid hfv
      clear hfv
      by_cases hlt2 : k < vl
      ·obtain ⟨xb, xoff, xa, xc, rfl, hx0, hxt⟩ := HV.out.get k (by rw [← HVL.out]; exact hlt2)
       have HY : Hid (x.vals[k]? = some (x.vals.getD k [])) := Lib.hid (by rw [List.getD_eq_getElem?_getD, List.getElem?_eq_getElem (by rw [← HVL.out]; exact hlt2)]; rfl)
       obtain ⟨tl, htl⟩ : ∃ tl : Nat, tl = (x.vals.getD k []).length := ⟨_, rfl⟩
       rw [← htl] at hx0
       have HTL := Lib.hid htl
       have hkk : (k : Int) < (vl : Int) := by omega
       clear hxt htl
       by_cases hz : (1000 - n') < (tl : Int)
       ·go_wp2_with fail
        go_ret
        exact ⟨false, rfl, (fun h => by cases h), rfl⟩
       ·go_wp2_with fail
        go_round
        case rel => exact ⟨n' + tl, k + 1, by omega, by go_num, rfl, by omega, by omega, HFV.out.succ HY.out (by have := HTL.out; omega)⟩
        case measure => simp [intOf]; omega
      ·have hkk : ¬ (k : Int) < (vl : Int) := by omega
       obtain rfl : k = vl := by omega
       go_wp2_with fail
       go_round
       case rel => exact ⟨n', i + 1, by omega, by go_num, rfl, by omega, by omega, HI.out.succ HX.out (by have := HKL.out; omega) (FewV.all (by have := HFV.out; rwa [HVL.out] at this) (by have := HVL.out; omega))⟩
       case measure => simp [intOf]; omega
  ·have hii : ¬ (i : Int) < (L.length : Int) := by omega
   obtain rfl : i = L.length := by omega
   go_wp2_with fail
   go_ret
   exact ⟨true, rfl, fun _ => ⟨hq1, hq2, hq3, hq4, HI.out.all hq1⟩, rfl⟩
theorem few_any (h : CodeAt w lv L) (ht : IntsAt w tv TB) (ha : IntsAt w av args) :
  Calls Tryz.prog 6 #[lv, tv, .int .i64 nv, av] w (FewRet L TB nv args w) := by
 by_cases hq : L.length ≤ 60 ∧ TB.length ≤ 20 ∧ nv ≤ 40 ∧ args.length ≤ 40
 ·exact few_yes lv tv av L TB args nv w h ht ha hq.1 hq.2.1 hq.2.2.1 hq.2.2.2
 ·exact few_not lv tv av L TB args nv w h ht ha hq
end
end Go.Proofs.YtgpekgnhbccnoaaGreat
namespace Go.Proofs.YtgpekgnhbccnoaaGreat
open Go Go.RowKit

/-- k entries of size cells each; entry t, of cells us, reads as R t us, out of blocks from B on, none of X. -/
structure RowI (B : Nat) (X : Nat → Prop) (e : TypeId) (size : Nat) (w : World) (g : Option Addr) (cap k : Nat) (cs : List Value) (R : Nat → List Value → World → Prop) : Prop where
 own : w.ownsRow B e size (.slice g k cap) k cs
 ent : ∀ t, t < k → ∃ us : List Value, us.length = size ∧ (∀ s u, us[s]? = some u → cs[t * size + s]? = some u) ∧ NewS B (fun q => X q ∨ (Value.slice g k cap).ownBlock = some q) w (R t us)
theorem RowI.nil (B : Nat) (X : Nat → Prop) (e : TypeId) (size : Nat) (w : World) (R : Nat → List Value → World → Prop) : RowI B X e size w none 0 0 [] R := ⟨World.ownsRow_nil _ _ _ _, fun t ht => by omega⟩
theorem RowI.fr {B : Nat} {X T : Nat → Prop} {e : TypeId} {size : Nat} {w w' : World} {g : Option Addr} {cap k : Nat} {cs : List Value} {R : Nat → List Value → World → Prop} (h : RowI B X e size w g cap k cs R) (hf : Fr w w' T) (hT : ∀ q, T q → X q ∨ q < B) (ho : ∀ q, (Value.slice g k cap).ownBlock = some q → ¬ T q) : RowI B X e size w' g cap k cs R :=
 ⟨hf.own h.own ho, fun t ht => by
  obtain ⟨us, h1, h2, h3⟩ := h.ent t ht
  exact ⟨us, h1, h2, h3.fr hf fun q hq _ hx hq2 => (hT q hq2).elim (fun h => hx (.inl h)) fun h => by omega⟩⟩
theorem RowI.fr0 {B : Nat} {X : Nat → Prop} {e : TypeId} {size : Nat} {w w' : World} {g : Option Addr} {cap k : Nat} {cs : List Value} {R : Nat → List Value → World → Prop} (h : RowI B X e size w g cap k cs R) (hf : Fr w w' Nil) : RowI B X e size w' g cap k cs R := h.fr hf (fun _ h => h.elim) fun _ _ h => h
theorem RowI.app {B : Nat} {X : Nat → Prop} {e : TypeId} {size : Nat} {w w' : World} {g g' : Option Addr} {cap cap' k : Nat} {cs us : List Value} {R : Nat → List Value → World → Prop} (h : RowI B X e size w g cap k cs R) (hB : B ≤ w.heap.size)
  (hu : us.length = size) (hn : NewS B (fun q => X q ∨ (Value.slice g k cap).ownBlock = some q) w (R k us))
  (h2 : w'.ownsRow 0 e size (.slice g' (k + 1) cap') (k + 1) (cs ++ us)) (h3 : w.grownBy w' (Value.slice g k cap).ownBlock) (h4 : (Value.slice g' (k + 1) cap').ownBlock = (Value.slice g k cap).ownBlock ∨ (Value.slice g' (k + 1) cap').ownBlock = some w.heap.size) :
  RowI B X e size w' g' cap' (k + 1) (cs ++ us) R ∧ Fr w w' (fun q => (Value.slice g k cap).ownBlock = some q) := by
 have hf : Fr w w' (fun q => (Value.slice g k cap).ownBlock = some q) := (Fr.refl w _).grown h3 fun q hq _ => hq
 have hcl : cs.length = k * size := h.own.1
 have key : ∀ (P : World → Prop), NewS B (fun q => X q ∨ (Value.slice g k cap).ownBlock = some q) w P → NewS B (fun q => X q ∨ (Value.slice g' (k + 1) cap').ownBlock = some q) w' P := fun P hP => by
  have a1 : NewS B (fun q => (X q ∨ (Value.slice g k cap).ownBlock = some q) ∨ (Value.slice g' (k + 1) cap').ownBlock = some q) w P := hP.also fun q hq => by
   rcases hq with hq | hq
   ·exact .inl hq
   ·rcases h4 with e4 | e4
    ·exact .inl (.inr (by rw [← e4]; exact hq))
    ·rw [e4] at hq; cases hq; exact .inr (Nat.le_refl _)
  exact (a1.fr hf fun q _ _ hx hq => hx (.inl (.inr hq))).weak fun q hq => hq.elim (fun h => .inl (.inl h)) fun h => .inr h
 refine ⟨⟨own_base h2 fun q hq => ?_, fun t ht => ?_⟩, hf⟩
 ·rcases h4 with e4 | e4
  ·exact (World.ownsRow.lt h.own q (by rw [← e4]; exact hq)).1
  ·rw [e4] at hq; cases hq; exact hB
 ·by_cases e1 : t = k
  ·subst e1
   refine ⟨us, hu, fun s u hs => ?_, key _ hn⟩
   rw [List.getElem?_append_right (by omega), hcl, Nat.add_sub_cancel_left]
   exact hs
  ·obtain ⟨vs, g1, g2, g3⟩ := h.ent t (by omega)
   exact ⟨vs, g1, fun s u hs => by
    have h9 := g2 s u hs
    rw [List.getElem?_append_left (List.getElem?_eq_some_iff.1 h9).1]
    exact h9, key _ g3⟩
/-- All of it. -/
theorem RowI.done {B : Nat} {X : Nat → Prop} {e : TypeId} {size : Nat} {w : World} {g : Option Addr} {cap k : Nat} {cs : List Value} {R : Nat → List Value → World → Prop} (h : RowI B X e size w g cap k cs R) (hX : ∀ q, (Value.slice g k cap).ownBlock = some q → ¬ X q) :
  NewS B X w (fun w => k = 0 ∨ ∃ b, g = some ⟨b, 0, none⟩ ∧ ∀ t, t < k → ∃ us : List Value, us.length = size ∧ (∀ s u, us[s]? = some u → w.cell? ⟨b, t * size + s, none⟩ = some u) ∧ R t us w) := by
 have h1 : NewS B X w _ := NewS.own h.own hX
 have h2 : NewS B X w (fun w => ∀ t : Nat, t < k → ∃ us : List Value, us.length = size ∧ (∀ s u, us[s]? = some u → cs[t * size + s]? = some u) ∧ R t us w) := NewS.all fun t ht => by
  obtain ⟨us, g1, g2, g3⟩ := h.ent t ht
  exact (g3.weak fun q hq => .inl hq).imp fun w hw => ⟨us, g1, g2, hw⟩
 refine (h1.and h2).imp fun w' hw => ?_
 obtain ⟨ho, hc⟩ := hw
 by_cases h0 : k = 0
 ·exact .inl h0
 obtain ⟨b, hb⟩ : ∃ b, g = some ⟨b, 0, none⟩ := by
  rcases ho.2 with ⟨_, e0⟩ | ⟨b, cap', cur, hv, _⟩
  ·exact absurd e0 h0
  ·simp only [Value.slice.injEq, true_and] at hv
   exact ⟨b, hv.1⟩
 subst hb
 refine .inr ⟨b, rfl, fun t ht => ?_⟩
 obtain ⟨us, g1, g2, g3⟩ := hc t ht
 refine ⟨us, g1, fun s u hu => ?_, g3⟩
 have h9 := g2 s u hu
 have hlt : s < size := by rw [← g1]; exact (List.getElem?_eq_some_iff.1 hu).1
 have hcl : cs.length = k * size := ho.1
 have h8 := (List.getElem?_eq_some_iff.1 h9).1
 rw [World.ownsRow.cellAt ho _ (by omega)]
 exact h9
end Go.Proofs.YtgpekgnhbccnoaaGreat
