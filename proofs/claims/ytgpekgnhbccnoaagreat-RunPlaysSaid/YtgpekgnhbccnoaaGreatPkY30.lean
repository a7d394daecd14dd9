/-
 What an instruction does, each in the same words.
 No condition but sizes.
-/
import Derived.Test.YtgpekgnhbccnoaaGreatPkY27
import Derived.Test.YtgpekgnhbccnoaaGreatPkY28
import Derived.Test.YtgpekgnhbccnoaaGreatPkY29
namespace Go.Proofs.YtgpekgnhbccnoaaGreat
open Go Go.RowKit

section
variable {w0 W : World} {l : List Thing} {q : StV} {M : List MTab} {rb : Nat}
/-- What is done. -/
def DoRet (w0 : World) (l : List Thing) (i j k : Nat) (q : StV) (rb : Nat) (M : List MTab) (z : Thing) (n : InstrD) (e : Ending) (W' : World) : Prop :=
 e = .returned (.tuple #[]) ∧ ∃ ov, Lies w0 W' (L3 l i j k (stT { q with vars := doV n q.vars M, out := doO n q.vars q.out, ov := ov }) (rowsT rb (doM n q.vars M)) z)
/-- What is asked for it. -/
structure DoArg (w0 W : World) (l : List Thing) (i j k : Nat) (q : StV) (rb : Nat) (M : List MTab) (z : Thing) (n : InstrD) (kv vv : Value) : Prop where
 lies : Lies w0 W (L3 l i j k (stT q) (rowsT rb M) z)
 ij : i ≠ j
 ik : i ≠ k
 jk : j ≠ k
 il : i < l.length
 jl : j < l.length
 kt : TermsAt W kv n.key
 vt : ValsAt W vv n.vals
 fv : FewT n.vals
 vl : q.vars.length ≤ 100000
 ol : q.out.length ≤ 100000
 good : Good M
 cols : colsN M = q.TB
 ok : IOk q.TB q.vars.length q.L.length n
section
variable {i j k : Nat} {z : Thing} {n : InstrD} {kv vv : Value}
theorem do_read (h : DoArg w0 W l i j k q rb M z n kv vv) (ho : n.op = 3) : Calls Tryz.prog 50 #[.pointer (some ⟨q.sb, 0, none⟩), n.val kv vv, .int .i64 (valP q.vars n.key), rptr rb] W (DoRet w0 l i j k q rb M z n) := by
 have hi := L3.geti (x := stT q) (y := rowsT rb M) (z := z) h.ij h.ik h.il
 have hj := L3.getj (i := i) (x := stT q) (y := rowsT rb M) (z := z) h.jk h.jl
 have hc := h.ok.col (.inl ho)
 have ht := h.ok.tab (by omega)
 have hml : n.tab < M.length := by rw [← colsN_len, h.cols]; exact ht.2
 have hcol : (TB : List Int) → colsN M = TB → (mtab M n.tab).1 = TB.getD n.tab.toNat 0 := fun TB hTB => by
  subst hTB
  unfold mtab colsN
  rw [if_pos ht.1, List.getD_eq_getElem?_getD, List.getElem?_map, List.getElem?_eq_getElem (by omega)]
  rfl
 refine (read_any h.lies i j hi hj h.ij n kv vv _ h.kt h.vt h.fv h.vl h.good (h.ok.var (.inl ho)) hc.1 fun xs hx => ?_).mono fun e W' ⟨he, hl⟩ => ⟨he, q.ov, ?_⟩
 ·have hm := (h.good.at n.tab).width (valP q.vars n.key, xs) (mget_mem hx)
  have hle := (h.good.at n.tab).le
  have := hcol _ h.cols
  simp only at hm
  omega
 ·rw [L3.seti h.ij h.ik] at hl
  have e1 : doV n q.vars M = q.vars.set n.var.toNat (readK M n.tab (valP q.vars n.key) n.col) := by unfold doV; rw [if_pos ho]; rfl
  have e2 : doO n q.vars q.out = q.out := by unfold doO; rw [if_neg (by omega)]
  have e3 : doM n q.vars M = M := by unfold doM; rw [if_neg (by omega), if_neg (by omega), if_neg (by omega)]
  rw [e1, e2, e3]
  exact hl
theorem do_set (h : DoArg w0 W l i j k q rb M z n kv vv) (ho : n.op = 4) : Calls Tryz.prog 51 #[.pointer (some ⟨q.sb, 0, none⟩), n.val kv vv, .int .i64 (valP q.vars n.key), rptr rb] W (DoRet w0 l i j k q rb M z n) := by
 have hi := L3.geti (x := stT q) (y := rowsT rb M) (z := z) h.ij h.ik h.il
 have hj := L3.getj (i := i) (x := stT q) (y := rowsT rb M) (z := z) h.jk h.jl
 refine (set_any' h.lies i j hi hj h.ij n kv vv _ h.kt h.vt h.fv h.vl h.good (by have := h.ok.one (.inl ho); omega)).mono fun e W' ⟨he, hl⟩ => ⟨he, q.ov, ?_⟩
 rw [L3.setj h.jk] at hl
 have e1 : doV n q.vars M = q.vars := by unfold doV; rw [if_neg (by omega), if_neg (by omega), if_neg (by omega)]
 have e2 : doO n q.vars q.out = q.out := by unfold doO; rw [if_neg (by omega)]
 have e3 : doM n q.vars M = (mset M n.tab (valP q.vars n.key) n.col (valP q.vars (n.vals.getD 0 []))).1 := by unfold doM; rw [if_pos ho]
 rw [e1, e2, e3]
 exact hl
theorem do_put (h : DoArg w0 W l i j k q rb M z n kv vv) (ho : n.op = 5) : Calls Tryz.prog 52 #[.pointer (some ⟨q.sb, 0, none⟩), n.val kv vv, .int .i64 (valP q.vars n.key), rptr rb] W (DoRet w0 l i j k q rb M z n) := by
 have hi := L3.geti (x := stT q) (y := rowsT rb M) (z := z) h.ij h.ik h.il
 have hj := L3.getj (i := i) (x := stT q) (y := rowsT rb M) (z := z) h.jk h.jl
 refine (put_any' h.lies i j hi hj h.ij n kv vv _ h.kt h.vt h.fv h.vl h.good).mono fun e W' ⟨he, hl⟩ => ⟨he, q.ov, ?_⟩
 rw [L3.setj h.jk] at hl
 have e1 : doV n q.vars M = q.vars := by unfold doV; rw [if_neg (by omega), if_neg (by omega), if_neg (by omega)]
 have e2 : doO n q.vars q.out = q.out := by unfold doO; rw [if_neg (by omega)]
 have e3 : doM n q.vars M = (mput M n.tab (valP q.vars n.key) (n.vals.map (valP q.vars))).1 := by unfold doM; rw [if_neg (by omega), if_pos ho]
 rw [e1, e2, e3]
 exact hl
theorem do_remove (h : DoArg w0 W l i j k q rb M z n kv vv) (ho : n.op = 6) : Calls Tryz.prog 53 #[.pointer (some ⟨q.sb, 0, none⟩), n.val kv vv, .int .i64 (valP q.vars n.key), rptr rb] W (DoRet w0 l i j k q rb M z n) := by
 have hi := L3.geti (x := stT q) (y := rowsT rb M) (z := z) h.ij h.ik h.il
 have hj := L3.getj (i := i) (x := stT q) (y := rowsT rb M) (z := z) h.jk h.jl
 refine (remove_any h.lies i j hi hj h.ij n kv vv _ h.kt h.vt h.fv h.vl h.good).mono fun e W' ⟨he, hl⟩ => ⟨he, q.ov, ?_⟩
 rw [L3.setj h.jk] at hl
 have e1 : doV n q.vars M = q.vars := by unfold doV; rw [if_neg (by omega), if_neg (by omega), if_neg (by omega)]
 have e2 : doO n q.vars q.out = q.out := by unfold doO; rw [if_neg (by omega)]
 have e3 : doM n q.vars M = (mdel M n.tab (valP q.vars n.key)).1 := by unfold doM; rw [if_neg (by omega), if_neg (by omega), if_pos ho]
 rw [e1, e2, e3]
 exact hl
theorem do_scan (h : DoArg w0 W l i j k q rb M z n kv vv) (kx : Int) (ho : n.op = 7) : Calls Tryz.prog 54 #[.pointer (some ⟨q.sb, 0, none⟩), n.val kv vv, .int .i64 kx, rptr rb] W (DoRet w0 l i j k q rb M z n) := by
 have hi := L3.geti (x := stT q) (y := rowsT rb M) (z := z) h.ij h.ik h.il
 have hj := L3.getj (i := i) (x := stT q) (y := rowsT rb M) (z := z) h.jk h.jl
 refine (scan_any h.lies i j hi hj h.ij n kv vv _ h.kt h.vt h.fv h.vl h.good (h.ok.var (.inr (.inl ho)))).mono fun e W' ⟨he, hl⟩ => ⟨he, q.ov, ?_⟩
 rw [L3.seti h.ij h.ik] at hl
 have e1 : doV n q.vars M = q.vars.set n.var.toNat (msum (mtab M n.tab) n.col) := by unfold doV; rw [if_neg (by omega), if_pos ho]
 have e2 : doO n q.vars q.out = q.out := by unfold doO; rw [if_neg (by omega)]
 have e3 : doM n q.vars M = M := by unfold doM; rw [if_neg (by omega), if_neg (by omega), if_neg (by omega)]
 rw [e1, e2, e3]
 exact hl
theorem do_let (h : DoArg w0 W l i j k q rb M z n kv vv) (kx : Int) (ho : n.op = 8) : Calls Tryz.prog 55 #[.pointer (some ⟨q.sb, 0, none⟩), n.val kv vv, .int .i64 kx, rptr rb] W (DoRet w0 l i j k q rb M z n) := by
 have hi := L3.geti (x := stT q) (y := rowsT rb M) (z := z) h.ij h.ik h.il
 have hj := L3.getj (i := i) (x := stT q) (y := rowsT rb M) (z := z) h.jk h.jl
 refine (let_any h.lies i j hi hj h.ij n kv vv _ h.kt h.vt h.fv h.vl h.good (h.ok.var (.inr (.inr (.inl ho)))) (by have := h.ok.one (.inr (.inl ho)); omega)).mono fun e W' ⟨he, hl⟩ => ⟨he, q.ov, ?_⟩
 rw [L3.seti h.ij h.ik] at hl
 have e1 : doV n q.vars M = q.vars.set n.var.toNat (valP q.vars (n.vals.getD 0 [])) := by unfold doV; rw [if_neg (by omega), if_neg (by omega), if_pos ho]
 have e2 : doO n q.vars q.out = q.out := by unfold doO; rw [if_neg (by omega)]
 have e3 : doM n q.vars M = M := by unfold doM; rw [if_neg (by omega), if_neg (by omega), if_neg (by omega)]
 rw [e1, e2, e3]
 exact hl
theorem do_emit (h : DoArg w0 W l i j k q rb M z n kv vv) (kx : Int) (ho : n.op = 9) : Calls Tryz.prog 56 #[.pointer (some ⟨q.sb, 0, none⟩), n.val kv vv, .int .i64 kx, rptr rb] W (DoRet w0 l i j k q rb M z n) := by
 have hi := L3.geti (x := stT q) (y := rowsT rb M) (z := z) h.ij h.ik h.il
 have hj := L3.getj (i := i) (x := stT q) (y := rowsT rb M) (z := z) h.jk h.jl
 refine (emit_any h.lies i j hi hj h.ij n kv vv _ h.kt h.vt h.fv h.vl h.good (by have := h.ok.one (.inr (.inr ho)); omega) h.ol).mono fun e W' ⟨he, ov, hl⟩ => ⟨he, ov, ?_⟩
 rw [L3.seti h.ij h.ik] at hl
 have e1 : doV n q.vars M = q.vars := by unfold doV; rw [if_neg (by omega), if_neg (by omega), if_neg (by omega)]
 have e2 : doO n q.vars q.out = q.out ++ [valP q.vars (n.vals.getD 0 [])] := by unfold doO; rw [if_pos ho]
 have e3 : doM n q.vars M = M := by unfold doM; rw [if_neg (by omega), if_neg (by omega), if_neg (by omega)]
 rw [e1, e2, e3]
 exact hl
theorem do_none (h : Lies w0 W (L3 l i j k (stT q) (rowsT rb M) z)) (ho : n.op < 3 ∨ 9 < n.op) : DoRet w0 l i j k q rb M z n (.returned (.tuple #[])) W := by
 refine ⟨rfl, q.ov, ?_⟩
 have e1 : doV n q.vars M = q.vars := by unfold doV; rw [if_neg (by omega), if_neg (by omega), if_neg (by omega)]
 have e2 : doO n q.vars q.out = q.out := by unfold doO; rw [if_neg (by omega)]
 have e3 : doM n q.vars M = M := by unfold doM; rw [if_neg (by omega), if_neg (by omega), if_neg (by omega)]
 rw [e1, e2, e3]
 exact h
end
end
end Go.Proofs.YtgpekgnhbccnoaaGreat
