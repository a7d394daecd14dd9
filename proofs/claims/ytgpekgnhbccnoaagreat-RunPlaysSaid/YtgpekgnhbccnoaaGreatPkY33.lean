/-
 Walk of Step.
 No condition but sizes.
 Walk of Step.
 No condition but sizes.
 Walk of Step.
 No condition but sizes.
 Walk of Step.
 No condition but sizes.
 Walk of works: the chapter's example.
 No condition.
-/
import Derived.Test.YtgpekgnhbccnoaaGreatPkY32
import Derived.Test.YtgpekgnhbccnoaaGreatPkY23
import Derived.Test.YtgpekgnhbccnoaaGreatPkY27
import Derived.Test.YtgpekgnhbccnoaaGreatPkY4
namespace Go.Proofs.YtgpekgnhbccnoaaGreat
open Go Go.RowKit
attribute [local go_sem ↓] Go.wp_at_zero Go.wp_at_succ
attribute [local go_sem] Tryz.someFunc Tryz.noFunc

section
variable {w0 W : World} {l : List Thing} {q : StV} {M : List MTab} {rb ub : Nat} {most : Int} {lg : List (Int × Ent)}
set_option maxRecDepth 100000 in
set_option maxHeartbeats 16000000 in
theorem step_10_11 (h : Lies w0 W l) (i j k : Nat) (hi : l[i]? = some (stT q)) (hj : l[j]? = some (rowsT rb M)) (hk : l[k]? = some (logT ub most lg)) (hij : i ≠ j) (hik : i ≠ k) (hjk : j ≠ k) (nv : Nat) (hf : StF q nv) (n : InstrD) (hn : q.L[q.at']? = some n) (hg : Good M) (hc : colsN M = q.TB) (who : Int) (hw : (Lit.int .i64 who).wf = true) (hll : lg.length ≤ 100000) (hol : q.out.length ≤ 100000) (hgr : n.op = 10 ∨ n.op = 11) :
  Calls Tryz.prog 21 #[.pointer (some ⟨q.sb, 0, none⟩), .int .i64 who, rptr rb, lptr ub] W (StepRet w0 l i j k q rb ub most (stepM q.L most who ⟨q.at', q.vars, q.out, M, lg⟩)) := by
 obtain ⟨iW, hiW, hsW⟩ := info_size Tryz.infoWant
 obtain ⟨iI, hiI, hsI⟩ := info_size Tryz.infoIns
 have hLl := hf.few.1
 have hat := hf.at'
 have hil := (List.getElem?_eq_some_iff.1 hi).1
 have hjl := (List.getElem?_eq_some_iff.1 hj).1
 have hkl := (List.getElem?_eq_some_iff.1 hk).1
 have HGN : Hid (q.L.getD q.at' default = n) := Lib.hid (by rw [List.getD_eq_getElem?_getD, hn]; rfl)
 obtain ⟨r, hr⟩ : ∃ r, r = stepM q.L most who ⟨q.at', q.vars, q.out, M, lg⟩ := ⟨_, rfl⟩
 rw [← hr]
 have HR := Lib.hid hr
 clear hr
 obtain ⟨w1, hw1⟩ : ∃ w1, w1 = W.alloc (.cells wantZ 50) := ⟨_, rfl⟩
 obtain ⟨b8, hb8⟩ : ∃ b8, b8 = W.heap.size := ⟨_, rfl⟩
 have HL1 : Hid (Lies w0 w1 (l ++ [bkT b8 50 wantZ.toList])) := by rw [hw1, hb8]; exact Lib.hid (h.newBk _ _)
 have HI1 : Hid ((l ++ [bkT b8 50 wantZ.toList])[i]? = some (stT q)) := Lib.hid (by rw [List.getElem?_append_left hil]; exact hi)
 have HJ1 : Hid ((l ++ [bkT b8 50 wantZ.toList])[j]? = some (rowsT rb M)) := Lib.hid (by rw [List.getElem?_append_left hjl]; exact hj)
 have HW1 := Lib.hid hw1
 have HB8 := Lib.hid hb8
 have HI := Lib.hid hi
 have HJ := Lib.hid hj
 have HK := Lib.hid hk
 have HF := Lib.hid hf
 have HN := Lib.hid hn
 have HG := Lib.hid hg
 have HC := Lib.hid hc
 have b1 := (HL1.out.stR i HI1.out).box.cell 1
 have htb := (HL1.out.stR i HI1.out).tabs
 obtain ⟨ta, tc, htv⟩ := htb.shape
 simp only [StV.cs, List.getElem?_cons_zero, List.getElem?_cons_succ] at b1
 rw [htv] at b1 htb
 rw [hw1] at b1
 have HTB := Lib.hid htb
 clear h hi hj hk hf hn hg hc hw1 htv hb8 htb
 go_enter Tryz.func21, Tryz.ntmps21
 go_wp2_with fail
 rw [← HW1.out, ← HB8.out]
 refine (fits_any HL1.out j HJ1.out _ HTB.out HG.out HC.out).mono ?_
 rintro e w2 ⟨rfl, hf2⟩
 have HL2 := Lib.hid (HL1.out.fr0 hf2)
 clear hf2 b1
 have b0 := (HL2.out.stR i HI1.out).box.cell 0
 have b2 := (HL2.out.stR i HI1.out).box.cell 2
 simp only [StV.cs, List.getElem?_cons_zero, List.getElem?_cons_succ] at b0 b2
 obtain ⟨b, off, cap, hlv, hlc⟩ := (HL2.out.stR i HI1.out).code.form (by omega)
 have HLV := Lib.hid hlv
 rw [hlv] at b0
 have HNX := Lib.hid (fun (w : World) (hf : Fr w2 w Nil) => next_any q nv n w ((HL2.out.stR i HI1.out).fr0 hf) HF.out HN.out)
 obtain ⟨ka, kc, va, vc, hkt, hvt, p0, p1, p2, p3, p4, p5, p6, p7, p8, p9, p10, p11, p12⟩ := (hlc q.at' n HN.out).cell
 have HKT := Lib.hid hkt
 have HVT := Lib.hid hvt
 have HP11 := Lib.hid p11
 have HP12 := Lib.hid p12
 have k0 := KeptF.cell b0
 have k2 := KeptF.cell b2
 have j0 := KeptF.cell p0
 have j1 := KeptF.cell p1
 have j2 := KeptF.cell p2
 have j3 := KeptF.cell p3
 have j4 := KeptF.cell p4
 have j5 := KeptF.cell p5
 have j6 := KeptF.cell p6
 have j7 := KeptF.cell p7
 have j8 := KeptF.cell p8
 have j9 := KeptF.cell p9
 have j10 := KeptF.cell p10
 have j11 := KeptF.cell p11
 have j12 := KeptF.cell p12
 clear hlc hlv hkt hvt b0 b2 p0 p1 p2 p3 p4 p5 p6 p7 p8 p9 p10 p11 p12
 obtain ⟨op, node, mode, tab, row, col, var, dst, eq, fro, upto, key, vals⟩ := n
 simp only at HKT HVT HP11 HP12 j0 j1 j2 j3 j4 j5 j6 j7 j8 j9 j10 j11 j12
 obtain ⟨x, hx⟩ : ∃ x, x = nextP ⟨op, node, mode, tab, row, col, var, dst, eq, fro, upto, key, vals⟩ q.vars := ⟨_, rfl⟩
 rw [← hx] at HNX
 have HX := Lib.hid hx
 clear hx
 obtain ⟨wk, wt, wr, wy, wm, wto, wwr⟩ := x
 simp only [WantD.val] at HNX
 go_wp2_with fail
 go_cut [10, 11] from 38 to 49 (fun v10 v11 wx => ∃ bw bn, v10 = .pointer (some ⟨bw, 0, none⟩) ∧ v11 = .pointer (some ⟨bn, 0, none⟩) ∧ Bk wx bw 50 [.int .u8 wk, .int .i64 wt, .bool wr, .int .i64 wy, .int .u8 wm, .bool wto, .bool wwr] ∧ Bk wx bn 81 [.int .u8 op, .int .i64 node, .int .u8 mode, .int .i64 tab, .bool row, .int .i64 col, .int .i64 var, .int .i64 dst, .bool eq, .int .i64 fro, .int .i64 upto, .slice ka key.length kc, .slice va vals.length vc] ∧ w2.heap.size ≤ bw ∧ w2.heap.size ≤ bn ∧ Fr w2 wx Nil)
 case first =>
  refine wp_region_sink 15 (KeptF w2) (by kernel_rfl) ?_
  have hS0 : KeptF w2 w2.drew := KeptF.start _
  refine tk 0 hS0 ?_
  refine tk 2 hS0 ?_
  refine tk 3 hS0 ?_
  refine tk 4 hS0 ?_
  try simp only [Act.put, sA, sB, sC]
  refine tk 5 hS0 ?_ (hy := by intro _ w; have ck0 := k0 _ w; go_simp <;> with_reducible rfl)
  try simp only [Act.put, sA, sB, sC]
  refine tk 6 hS0 ?_
  refine tk 7 hS0 ?_
  refine tk 8 hS0 ?_
  try simp only [Act.put, sA, sB, sC]
  refine tk 9 hS0 ?_ (hy := by intro _ w; have ck2 := k2 _ w; go_simp <;> with_reducible rfl)
  try simp only [Act.put, sA, sB, sC]
  refine tk 10 hS0 ?_
  try simp only [Act.put, sA, sB, sC]
  refine tk 11 hS0 ?_ (hy := by intro _ w; have cj0 := j0 _ w; have cj1 := j1 _ w; have cj2 := j2 _ w; have cj3 := j3 _ w; have cj4 := j4 _ w; have cj5 := j5 _ w; have cj6 := j6 _ w; have cj7 := j7 _ w; have cj8 := j8 _ w; have cj9 := j9 _ w; have cj10 := j10 _ w; have cj11 := j11 _ w; have cj12 := j12 _ w; go_simp <;> with_reducible rfl)
  try simp only [Act.put, sA, sB, sC]
  refine wpAnyS_three (i := 1) (j := 12) (k := 13) rfl rfl rfl (by kernel_rfl) (by decide) (by decide) (by decide) (by rfl) (by rfl) (by rfl) (fun K hK => ?_) (fun K hK => ?_) (fun K hK => ?_)
  go_simp
  refine (HNX.out _ (KeptF.fr hS0)).mono ?_
  rintro e u1 ⟨he, hfc⟩
  subst he
  have hS1 := KeptF.next hS0 hfc
  refine hK.out _ _ hS1 ?_
  clear hK K
  try simp only [Act.put, sA, sB, sC]
  have hz1 := hfc.size
  (try simp only [World.size_alloc] at hz1)
  refine wpAnyS_two (i := 12) (j := 13) rfl rfl (by kernel_rfl) (by decide) (by decide) (by rfl) (by rfl) (fun K hK => ?_) (fun K hK => ?_)
  go_simp
  have hbW : Bk (u1.alloc (.cells wantZ 50)) u1.heap.size 50 wantZ.toList := Bk.new _ _ _
  have hnW : w2.heap.size ≤ u1.heap.size := by have h9 := (KeptF.fr hS1).size; (try simp only [World.size_alloc] at h9); (try simp at h9); have hd0 : w2.drew.heap.size = w2.heap.size := rfl; omega
  have hS2 := KeptF.next hS1 ((Fr.refl _ Nil).alloc (.cells wantZ 50))
  refine hK.out _ _ hS2 ?_
  clear hK K
  try simp only [Act.put, sA, sB, sC]
  refine on1 13 fun K hK => ?_
  go_simp
  have hbI : Bk ((u1.alloc (.cells wantZ 50)).alloc (.cells insZ 81)) (u1.heap.size + 1) 81 insZ.toList := by have h9 := Bk.new (u1.alloc (.cells wantZ 50)) 81 insZ; rwa [World.size_alloc] at h9
  have hnI : w2.heap.size ≤ (u1.heap.size + 1) := by have h9 := (KeptF.fr hS2).size; (try simp only [World.size_alloc] at h9); (try simp at h9); have hd0 : w2.drew.heap.size = w2.heap.size := rfl; omega
  have hS3 := KeptF.next hS2 ((Fr.refl _ Nil).alloc (.cells insZ 81))
  have hneI : ¬ ((u1.heap.size + 1)) = (u1.heap.size) := by have hd0 : w2.drew.heap.size = w2.heap.size := rfl; omega
  refine hK.out _ _ hS3 ?_
  clear hK K
  try simp only [Act.put, sA, sB, sC]
  have hbZ := (hbW.alloc (.cells insZ 81))
  have hbY := hbI
  have hSZ := hS3
  rotate_left
  go_simp
  have hbI : Bk (u1.alloc (.cells insZ 81)) u1.heap.size 81 insZ.toList := Bk.new _ _ _
  have hnI : w2.heap.size ≤ u1.heap.size := by have h9 := (KeptF.fr hS1).size; (try simp only [World.size_alloc] at h9); (try simp at h9); have hd0 : w2.drew.heap.size = w2.heap.size := rfl; omega
  have hS2 := KeptF.next hS1 ((Fr.refl _ Nil).alloc (.cells insZ 81))
  refine hK.out _ _ hS2 ?_
  clear hK K
  try simp only [Act.put, sA, sB, sC]
  refine on1 12 fun K hK => ?_
  go_simp
  have hbW : Bk ((u1.alloc (.cells insZ 81)).alloc (.cells wantZ 50)) (u1.heap.size + 1) 50 wantZ.toList := by have h9 := Bk.new (u1.alloc (.cells insZ 81)) 50 wantZ; rwa [World.size_alloc] at h9
  have hnW : w2.heap.size ≤ (u1.heap.size + 1) := by have h9 := (KeptF.fr hS2).size; (try simp only [World.size_alloc] at h9); (try simp at h9); have hd0 : w2.drew.heap.size = w2.heap.size := rfl; omega
  have hS3 := KeptF.next hS2 ((Fr.refl _ Nil).alloc (.cells wantZ 50))
  have hneI : ¬ (u1.heap.size) = ((u1.heap.size + 1)) := by have hd0 : w2.drew.heap.size = w2.heap.size := rfl; omega
  refine hK.out _ _ hS3 ?_
  clear hK K
  try simp only [Act.put, sA, sB, sC]
  have hbZ := hbW
  have hbY := (hbI.alloc (.cells wantZ 50))
  have hSZ := hS3
  rotate_left
  go_simp
  have hbW : Bk (w2.drew.alloc (.cells wantZ 50)) w2.heap.size 50 wantZ.toList := Bk.new _ _ _
  have hnW : w2.heap.size ≤ w2.heap.size := by have h9 := (KeptF.fr hS0).size; (try simp only [World.size_alloc] at h9); (try simp at h9); have hd0 : w2.drew.heap.size = w2.heap.size := rfl; omega
  have hS1 := KeptF.next hS0 ((Fr.refl _ Nil).alloc (.cells wantZ 50))
  refine hK.out _ _ hS1 ?_
  clear hK K
  try simp only [Act.put, sA, sB, sC]
  refine wpAnyS_two (i := 1) (j := 13) rfl rfl (by kernel_rfl) (by decide) (by decide) (by rfl) (by rfl) (fun K hK => ?_) (fun K hK => ?_)
  go_simp
  refine (HNX.out _ (KeptF.fr hS1)).mono ?_
  rintro e u2 ⟨he, hfc⟩
  subst he
  have hS2 := KeptF.next hS1 hfc
  refine hK.out _ _ hS2 ?_
  clear hK K
  try simp only [Act.put, sA, sB, sC]
  have hz2 := hfc.size
  (try simp only [World.size_alloc] at hz2)
  refine on1 13 fun K hK => ?_
  go_simp
  have hbI : Bk (u2.alloc (.cells insZ 81)) u2.heap.size 81 insZ.toList := Bk.new _ _ _
  have hnI : w2.heap.size ≤ u2.heap.size := by have h9 := (KeptF.fr hS2).size; (try simp only [World.size_alloc] at h9); (try simp at h9); have hd0 : w2.drew.heap.size = w2.heap.size := rfl; omega
  have hS3 := KeptF.next hS2 ((Fr.refl _ Nil).alloc (.cells insZ 81))
  have hneI : ¬ (u2.heap.size) = (w2.heap.size) := by have hd0 : w2.drew.heap.size = w2.heap.size := rfl; omega
  refine hK.out _ _ hS3 ?_
  clear hK K
  try simp only [Act.put, sA, sB, sC]
  have hbZ := ((hbW.fr hfc fun h => h).alloc (.cells insZ 81))
  have hbY := hbI
  have hSZ := hS3
  rotate_left
  go_simp
  have hbI : Bk ((w2.drew.alloc (.cells wantZ 50)).alloc (.cells insZ 81)) (w2.heap.size + 1) 81 insZ.toList := by have h9 := Bk.new (w2.drew.alloc (.cells wantZ 50)) 81 insZ; rwa [World.size_alloc] at h9
  have hnI : w2.heap.size ≤ (w2.heap.size + 1) := by have h9 := (KeptF.fr hS1).size; (try simp only [World.size_alloc] at h9); (try simp at h9); have hd0 : w2.drew.heap.size = w2.heap.size := rfl; omega
  have hS2 := KeptF.next hS1 ((Fr.refl _ Nil).alloc (.cells insZ 81))
  have hneI : ¬ ((w2.heap.size + 1)) = (w2.heap.size) := by have hd0 : w2.drew.heap.size = w2.heap.size := rfl; omega
  refine hK.out _ _ hS2 ?_
  clear hK K
  try simp only [Act.put, sA, sB, sC]
  refine on1 1 fun K hK => ?_
  go_simp
  refine (HNX.out _ (KeptF.fr hS2)).mono ?_
  rintro e u3 ⟨he, hfc⟩
  subst he
  have hS3 := KeptF.next hS2 hfc
  refine hK.out _ _ hS3 ?_
  clear hK K
  try simp only [Act.put, sA, sB, sC]
  have hz3 := hfc.size
  (try simp only [World.size_alloc] at hz3)
  have hbZ := ((hbW.alloc (.cells insZ 81)).fr hfc fun h => h)
  have hbY := (hbI.fr hfc fun h => h)
  have hSZ := hS3
  rotate_left
  go_simp
  have hbI : Bk (w2.drew.alloc (.cells insZ 81)) w2.heap.size 81 insZ.toList := Bk.new _ _ _
  have hnI : w2.heap.size ≤ w2.heap.size := by have h9 := (KeptF.fr hS0).size; (try simp only [World.size_alloc] at h9); (try simp at h9); have hd0 : w2.drew.heap.size = w2.heap.size := rfl; omega
  have hS1 := KeptF.next hS0 ((Fr.refl _ Nil).alloc (.cells insZ 81))
  refine hK.out _ _ hS1 ?_
  clear hK K
  try simp only [Act.put, sA, sB, sC]
  refine wpAnyS_two (i := 1) (j := 12) rfl rfl (by kernel_rfl) (by decide) (by decide) (by rfl) (by rfl) (fun K hK => ?_) (fun K hK => ?_)
  go_simp
  refine (HNX.out _ (KeptF.fr hS1)).mono ?_
  rintro e u2 ⟨he, hfc⟩
  subst he
  have hS2 := KeptF.next hS1 hfc
  refine hK.out _ _ hS2 ?_
  clear hK K
  try simp only [Act.put, sA, sB, sC]
  have hz2 := hfc.size
  (try simp only [World.size_alloc] at hz2)
  refine on1 12 fun K hK => ?_
  go_simp
  have hbW : Bk (u2.alloc (.cells wantZ 50)) u2.heap.size 50 wantZ.toList := Bk.new _ _ _
  have hnW : w2.heap.size ≤ u2.heap.size := by have h9 := (KeptF.fr hS2).size; (try simp only [World.size_alloc] at h9); (try simp at h9); have hd0 : w2.drew.heap.size = w2.heap.size := rfl; omega
  have hS3 := KeptF.next hS2 ((Fr.refl _ Nil).alloc (.cells wantZ 50))
  have hneI : ¬ (w2.heap.size) = (u2.heap.size) := by have hd0 : w2.drew.heap.size = w2.heap.size := rfl; omega
  refine hK.out _ _ hS3 ?_
  clear hK K
  try simp only [Act.put, sA, sB, sC]
  have hbZ := hbW
  have hbY := ((hbI.fr hfc fun h => h).alloc (.cells wantZ 50))
  have hSZ := hS3
  rotate_left
  go_simp
  have hbW : Bk ((w2.drew.alloc (.cells insZ 81)).alloc (.cells wantZ 50)) (w2.heap.size + 1) 50 wantZ.toList := by have h9 := Bk.new (w2.drew.alloc (.cells insZ 81)) 50 wantZ; rwa [World.size_alloc] at h9
  have hnW : w2.heap.size ≤ (w2.heap.size + 1) := by have h9 := (KeptF.fr hS1).size; (try simp only [World.size_alloc] at h9); (try simp at h9); have hd0 : w2.drew.heap.size = w2.heap.size := rfl; omega
  have hS2 := KeptF.next hS1 ((Fr.refl _ Nil).alloc (.cells wantZ 50))
  have hneI : ¬ (w2.heap.size) = ((w2.heap.size + 1)) := by have hd0 : w2.drew.heap.size = w2.heap.size := rfl; omega
  refine hK.out _ _ hS2 ?_
  clear hK K
  try simp only [Act.put, sA, sB, sC]
  refine on1 1 fun K hK => ?_
  go_simp
  refine (HNX.out _ (KeptF.fr hS2)).mono ?_
  rintro e u3 ⟨he, hfc⟩
  subst he
  have hS3 := KeptF.next hS2 hfc
  refine hK.out _ _ hS3 ?_
  clear hK K
  try simp only [Act.put, sA, sB, sC]
  have hz3 := hfc.size
  (try simp only [World.size_alloc] at hz3)
  have hbZ := (hbW.fr hfc fun h => h)
  have hbY := ((hbI.alloc (.cells wantZ 50)).fr hfc fun h => h)
  have hSZ := hS3
  rotate_left
  all_goals
   refine on1 14 fun K hK => ?_
   refine wp_store_bk 50 _ _ rfl _ _ _ [.int .u8 wk, .int .i64 wt, .bool wr, .int .i64 wy, .int .u8 wm, .bool wto, .bool wwr] _ rfl rfl rfl iW hiW hsW hbZ rfl (by simp [Value.oneCell']) ?_
   intro w8 hb8 hf8
   have hS8 : KeptF w2 w8 := KeptF.store hSZ hf8 hnW
   refine hK.out _ _ hS8 ?_
   clear hK K
   refine wpAnyS_last (i := 15) rfl (by kernel_rfl) (by decide) (by kernel_rfl) (by rfl) fun K hK => ?_
   refine wp_store_bk 81 _ _ rfl _ _ _ [.int .u8 op, .int .i64 node, .int .u8 mode, .int .i64 tab, .bool row, .int .i64 col, .int .i64 var, .int .i64 dst, .bool eq, .int .i64 fro, .int .i64 upto, .slice ka key.length kc, .slice va vals.length vc] _ rfl rfl rfl iI hiI hsI (hbY.fr hf8 hneI) rfl (by simp [Value.oneCell']) ?_
   intro w9 hb9 hf9
   refine hK.out _ _ ?_
   clear hK K
   have hR9 : Fr w2 w9 Nil := KeptF.fr (KeptF.store hS8 hf9 hnI)
   have hR8 := hb8.fr hf9 (Ne.symm hneI)
   clear hS8 hf8 hf9 hb8
   have HR8 := Lib.hid hR8
   have HB9 := Lib.hid hb9
   have HR9 := Lib.hid hR9
   clear hR8 hb9 hR9
   go_wp2_with fail
   go_meet
   case rel => exact ⟨_, _, rfl, rfl, HR8.out, HB9.out, hnW, hnI, HR9.out⟩
 case rest =>
  obtain ⟨bw, bn, rfl, rfl, hbw, hbn, hsw, hsn, hfx⟩ := hcut
  clear HNX k0 k2 j0 j1 j2 j3 j4 j5 j6 j7 j8 j9 j10 j11 j12
  obtain ⟨l2, hl2⟩ : ∃ l2, l2 = l ++ [bkT b8 50 wantZ.toList, pairT bw bn 50 81 [.int .u8 wk, .int .i64 wt, .bool wr, .int .i64 wy, .int .u8 wm, .bool wto, .bool wwr] [.int .u8 op, .int .i64 node, .int .u8 mode, .int .i64 tab, .bool row, .int .i64 col, .int .i64 var, .int .i64 dst, .bool eq, .int .i64 fro, .int .i64 upto, .slice ka key.length kc, .slice va vals.length vc]] := ⟨_, rfl⟩
  have HL2E := Lib.hid hl2
  have il : i < l2.length := by rw [hl2, List.length_append]; omega
  have jl : j < l2.length := by rw [hl2, List.length_append]; omega
  have kl : k < l2.length := by rw [hl2, List.length_append]; omega
  have HGB : Hid (l2[l.length]? = some (bkT b8 50 wantZ.toList)) := Lib.hid (by rw [hl2]; simp)
  have HGP : Hid (l2[l.length + 1]? = some (pairT bw bn 50 81 [.int .u8 wk, .int .i64 wt, .bool wr, .int .i64 wy, .int .u8 wm, .bool wto, .bool wwr] [.int .u8 op, .int .i64 node, .int .u8 mode, .int .i64 tab, .bool row, .int .i64 col, .int .i64 var, .int .i64 dst, .bool eq, .int .i64 fro, .int .i64 upto, .slice ka key.length kc, .slice va vals.length vc])) := Lib.hid (by rw [hl2, List.getElem?_append_right (by omega), Nat.add_sub_cancel_left]; rfl)
  have HLx : Hid (Lies w0 wc (L3 l2 i j k (stT q) (rowsT rb M) (logT ub most lg))) := by
   have e1 : l2[i]? = some (stT q) := by rw [hl2, List.getElem?_append_left hil]; exact HI.out
   have e2 : l2[j]? = some (rowsT rb M) := by rw [hl2, List.getElem?_append_left hjl]; exact HJ.out
   have e3 : l2[k]? = some (logT ub most lg) := by rw [hl2, List.getElem?_append_left hkl]; exact HK.out
   rw [L3.self e1 e2 e3, hl2]
   have h9 := HL2.out.add (pairT bw bn 50 81 [.int .u8 wk, .int .i64 wt, .bool wr, .int .i64 wy, .int .u8 wm, .bool wto, .bool wwr] [.int .u8 op, .int .i64 node, .int .u8 mode, .int .i64 tab, .bool row, .int .i64 col, .int .i64 var, .int .i64 dst, .bool eq, .int .i64 fro, .int .i64 upto, .slice ka key.length kc, .slice va vals.length vc]) (W' := wc) (S := fun k => k = bw ∨ k = bn) ⟨⟨hbw, hbn⟩, fun _ => Iff.rfl⟩ (fun k hk => hk.elim (fun e => by rw [e]; exact hsw) fun e => by rw [e]; exact hsn) hfx
   rw [List.append_assoc] at h9
   exact Lib.hid h9
  have HKTx := Lib.hid (HKT.out.fr0 hfx)
  have HVTx := Lib.hid (HVT.out.fr0 hfx)
  have HP11x := Lib.hid (hfx.cell HP11.out fun h => h)
  have HP12x := Lib.hid (hfx.cell HP12.out fun h => h)
  clear hbw hbn hsw hsn hfx hl2 HKT HVT HP11 HP12 HL1 HL2 HTB
  have HPW : Hid (∀ (w : World) (x y z : Thing), Lies w0 w (L3 l2 i j k x y z) → Bk w bw 50 [.int .u8 wk, .int .i64 wt, .bool wr, .int .i64 wy, .int .u8 wm, .bool wto, .bool wwr] ∧ Bk w bn 81 [.int .u8 op, .int .i64 node, .int .u8 mode, .int .i64 tab, .bool row, .int .i64 col, .int .i64 var, .int .i64 dst, .bool eq, .int .i64 fro, .int .i64 upto, .slice ka key.length kc, .slice va vals.length vc]) := Lib.hid (fun w x y z h => h.pair (l.length + 1) (by rw [L3.get (by omega) (by omega) (by omega)]; exact HGP.out))
  have HPB : Hid (∀ (w : World) (x y z : Thing), Lies w0 w (L3 l2 i j k x y z) → Bk w b8 50 wantZ.toList) := Lib.hid (fun w x y z h => h.bk l.length (by rw [L3.get (by omega) (by omega) (by omega)]; exact HGB.out))
  have x0 := (HPW.out _ _ _ _ HLx.out).1.cell 0
  have x1 := (HPW.out _ _ _ _ HLx.out).1.cell 1
  have x2 := (HPW.out _ _ _ _ HLx.out).1.cell 2
  have x3 := (HPW.out _ _ _ _ HLx.out).1.cell 3
  have x4 := (HPW.out _ _ _ _ HLx.out).1.cell 4
  have x5 := (HPW.out _ _ _ _ HLx.out).1.cell 5
  have x6 := (HPW.out _ _ _ _ HLx.out).1.cell 6
  simp only [List.getElem?_cons_zero, List.getElem?_cons_succ] at x0 x1 x2 x3 x4 x5 x6
  have y0 := (HPW.out _ _ _ _ HLx.out).2.cell 0
  have y3 := (HPW.out _ _ _ _ HLx.out).2.cell 3
  simp only [List.getElem?_cons_zero, List.getElem?_cons_succ] at y0 y3
  by_cases hk1 : wk = 1
  ·subst hk1
   go_upto_if 55 with (fail)
   go_cut [12] from 56 to 68 (fun v12 wx => ∃ lg2, lg2.length ≤ lg.length + 1 ∧ r = (⟨1, wt, wr, wy, wm, wto, wwr⟩, 0, wentP ⟨op, node, mode, tab, row, col, var, dst, eq, fro, upto, key, vals⟩ ⟨q.at', q.vars, q.out, M, lg⟩ lg2) ∧ Lies w0 wx (L3 l2 i j k (stT q) (rowsT rb M) (logT ub most lg2)) ∧ TermsAt wx (.slice ka key.length kc) key ∧ ValsAt wx (.slice va vals.length vc) vals)
   case first =>
    cases hwwr : wwr
    ·subst hwwr
     go_wp2_with fail
     go_meet
     exact ⟨lg, by omega, by rw [HR.out]; exact stepM_went HGN.out HX.out rfl rfl, HLx.out, HKTx.out, HVTx.out⟩
    ·subst hwwr
     go_wp2_with fail
     refine (st_noteK HLx.out k j (L3.getk kl) (L3.getj hjk jl) i (L3.geti hij hik il) (Ne.symm hik) who tab wy HG.out hw hll).mono ?_
     rintro e w4 ⟨he, hl4, C, T, hc1, hc2, hc3⟩
     have hkeep := hc1.keepI hc2 hc3 HLV.out HN.out HP11x.out HP12x.out
     rw [L3.setk] at hl4
     have HK4 := Lib.hid hkeep
     have HL4 := Lib.hid hl4
     clear hc1 hc2 hc3 hkeep hl4 x0 x1 x2 x3 x4 x5 x6 y0 y3
     by_cases h0 : noteE M most lg tab = 0
     ·have HR4 : Hid (r = (⟨1, wt, wr, wy, wm, wto, true⟩, 0, wentP ⟨op, node, mode, tab, row, col, var, dst, eq, fro, upto, key, vals⟩ ⟨q.at', q.vars, q.out, M, lg⟩ (noteL M most lg who tab wy))) := Lib.hid (by rw [HR.out]; exact stepM_note HGN.out HX.out rfl rfl h0)
      rw [h0] at he
      subst he
      have HLN := Lib.hid (noteL_len M most lg who tab wy)
      clear h0
      go_wp2_with fail
      go_meet
      exact ⟨_, HLN.out, HR4.out, HL4.out, HK4.out.1, HK4.out.2⟩
     ·have HR4 : Hid (r = (WantD.zero, noteE M most lg tab, ⟨q.at', q.vars, q.out, M, lg⟩)) := Lib.hid (by rw [HR.out]; exact stepM_full (s := ⟨q.at', q.vars, q.out, M, lg⟩) HGN.out HX.out rfl rfl h0)
      have HLE : Hid (noteL M most lg who tab wy = lg) := Lib.hid (by unfold noteL; rw [if_neg h0])
      rw [HLE.out] at HL4
      generalize noteE M most lg tab = ne at he h0 HR4
      have d0 : (ne != 0) = true := by rw [bne_iff_ne]; exact h0
      subst he
      have z0 : w4.cell? ⟨b8, 0, none⟩ = some (.int .u8 0) := (HPB.out _ _ _ _ HL4.out).cell 0
      have z1 : w4.cell? ⟨b8, 1, none⟩ = some (.int .i64 0) := (HPB.out _ _ _ _ HL4.out).cell 1
      have z2 : w4.cell? ⟨b8, 2, none⟩ = some (.bool false) := (HPB.out _ _ _ _ HL4.out).cell 2
      have z3 : w4.cell? ⟨b8, 3, none⟩ = some (.int .i64 0) := (HPB.out _ _ _ _ HL4.out).cell 3
      have z4 : w4.cell? ⟨b8, 4, none⟩ = some (.int .u8 0) := (HPB.out _ _ _ _ HL4.out).cell 4
      have z5 : w4.cell? ⟨b8, 5, none⟩ = some (.bool false) := (HPB.out _ _ _ _ HL4.out).cell 5
      have z6 : w4.cell? ⟨b8, 6, none⟩ = some (.bool false) := (HPB.out _ _ _ _ HL4.out).cell 6
      have s8 := (HPB.out _ _ _ _ HL4.out).free
      clear h0
      go_wp2_with fail
      refine set7_world (HPB.out _ _ _ _ HL4.out) ?_
      intro w9 hb9 hf9
      have HLF := Lib.hid (step_fin (by rw [← HL2E.out]; exact HL4.out) hil hjl hkl (by rw [← HL2E.out]; exact HGB.out) hb9 hf9)
      have t0 := hb9.cell 0
      have t1 := hb9.cell 1
      have t2 := hb9.cell 2
      have t3 := hb9.cell 3
      have t4 := hb9.cell 4
      have t5 := hb9.cell 5
      have t6 := hb9.cell 6
      simp only [List.getElem?_cons_zero, List.getElem?_cons_succ] at t0 t1 t2 t3 t4 t5 t6
      clear hb9 hf9 s8 z0 z1 z2 z3 z4 z5 z6
      go_wp2_with fail
      exact bodyPost_ret (v := .tuple #[WantD.zero.val, .int .i64 ne]) (by simp [results, Tryz.results21, go_sem, t0, t1, t2, t3, t4, t5, t6, WantD.zero]; try rfl) rfl ⟨by rw [HR4.out], q.ov, by rw [HR4.out]; exact HLF.out⟩
   case rest =>
    obtain ⟨lg2, hlg2, hr2, hl5, hk5, hv5⟩ := hcut
    have HR5 := Lib.hid hr2
    have HL5 := Lib.hid hl5
    have HK5 := Lib.hid hk5
    have HV5 := Lib.hid hv5
    clear hr2 hl5 hk5 hv5 x0 x1 x2 x3 x4 x5 x6 y0 y3
    have HOK : Hid (IOk q.TB nv q.L.length ⟨op, node, mode, tab, row, col, var, dst, eq, fro, upto, key, vals⟩) := Lib.hid (HF.out.ok.all _ _ HN.out)
    have ho1 : 3 ≤ op ∧ op ≤ 13 := (nextP_kind q.vars HOK.out.lo HOK.out.hi).1 (by rw [← HX.out])
    have HDA : Hid (∀ (w : World), Fr wc w Nil → DoArg w0 w l2 i j k q rb M (logT ub most lg2) ⟨op, node, mode, tab, row, col, var, dst, eq, fro, upto, key, vals⟩ (.slice ka key.length kc) (.slice va vals.length vc)) := Lib.hid (fun w hf => ⟨HL5.out.fr0 hf, hij, hik, hjk, il, jl, HK5.out.fr0 hf, HV5.out.fr0 hf, (HF.out.few.2 _ (List.mem_of_getElem? HN.out)).2, by rw [HF.out.len]; exact HF.out.le, hol, HG.out, HC.out, by rw [HF.out.len]; exact HOK.out⟩)
    have hop := HOK.out.lo
    clear hop
    have HY := Lib.hid (fun o => ((HPW.out _ _ _ _ HL5.out).2.alloc o))
    have HXW := Lib.hid (fun o => ((HPW.out _ _ _ _ HL5.out).1.alloc o))
    rcases (show op = 10 ∨ op = 11 by omega) with rfl | rfl
    ·have y0 := fun o => (HY.out o).cell 0
     have y1 := fun o => (HY.out o).cell 1
     have y2 := fun o => (HY.out o).cell 2
     have y3 := fun o => (HY.out o).cell 3
     have y4 := fun o => (HY.out o).cell 4
     have y5 := fun o => (HY.out o).cell 5
     have y6 := fun o => (HY.out o).cell 6
     have y7 := fun o => (HY.out o).cell 7
     have y8 := fun o => (HY.out o).cell 8
     have y9 := fun o => (HY.out o).cell 9
     have y10 := fun o => (HY.out o).cell 10
     have y11 := fun o => (HY.out o).cell 11
     have y12 := fun o => (HY.out o).cell 12
     have x3 := fun o => (HXW.out o).cell 3
     simp only [List.getElem?_cons_zero, List.getElem?_cons_succ] at x3 y0 y1 y2 y3 y4 y5 y6 y7 y8 y9 y10 y11 y12
     clear ho1
     go_upto_region 16 with (fail)
     obtain ⟨w6, hw6⟩ : ∃ w6, w6 = wc.alloc (.cells #[.nilFunc, .nilFunc, .nilFunc, .func (.func 50) #[] #[], .func (.func 51) #[] #[], .func (.func 52) #[] #[], .func (.func 53) #[] #[], .func (.func 54) #[] #[], .func (.func 55) #[] #[], .func (.func 56) #[] #[], .nilFunc, .nilFunc, .nilFunc, .nilFunc, .nilFunc, .nilFunc, .nilFunc] 111) := ⟨_, rfl⟩
     have hf6 : Fr wc w6 Nil := by rw [hw6]; exact (Fr.refl wc Nil).alloc _
     rw [← hw6]
     have HKV := Lib.hid (show 10 ≤ (⟨10, node, mode, tab, row, col, var, dst, eq, fro, upto, key, vals⟩ : InstrD).op → TermsAt w6 (.slice ka key.length kc) key ∧ ValsAt w6 (.slice va vals.length vc) vals from fun _ => ⟨HK5.out.fr0 hf6, HV5.out.fr0 hf6⟩)
     obtain ⟨-, ov, h6⟩ := do_none (n := ⟨10, node, mode, tab, row, col, var, dst, eq, fro, upto, key, vals⟩) (HL5.out.fr0 hf6) (.inr (show (9 : Int) < 10 by decide))
     clear hw6 hf6
     have HL6 : Hid (Lies w0 w6 (L3 l2 i j k (stT { q with vars := doV ⟨10, node, mode, tab, row, col, var, dst, eq, fro, upto, key, vals⟩ q.vars M, out := doO ⟨10, node, mode, tab, row, col, var, dst, eq, fro, upto, key, vals⟩ q.vars q.out, ov := ov }) (rowsT rb (doM ⟨10, node, mode, tab, row, col, var, dst, eq, fro, upto, key, vals⟩ q.vars M)) (logT ub most lg2))) := Lib.hid h6
     clear h6 x3 y0 y1 y2 y3 y4 y5 y6 y7 y8 y9 y10 y11 y12
     obtain ⟨vs, hvs⟩ : ∃ vs, vs = doV ⟨10, node, mode, tab, row, col, var, dst, eq, fro, upto, key, vals⟩ q.vars M := ⟨_, rfl⟩
     obtain ⟨os, hos⟩ : ∃ os, os = doO ⟨10, node, mode, tab, row, col, var, dst, eq, fro, upto, key, vals⟩ q.vars q.out := ⟨_, rfl⟩
     obtain ⟨M6, hM6⟩ : ∃ M6, M6 = doM ⟨10, node, mode, tab, row, col, var, dst, eq, fro, upto, key, vals⟩ q.vars M := ⟨_, rfl⟩
     have HVS := Lib.hid hvs
     have HOS := Lib.hid hos
     have HM6 := Lib.hid hM6
     rw [← hvs, ← hos, ← hM6] at HL6
     have HVL : Hid (vs.length = q.vars.length) := Lib.hid (by rw [hvs]; exact doV_len _ _)
     clear hvs hos hM6
     have y0 := (HPW.out _ _ _ _ HL6.out).2.cell 0
     have y1 := (HPW.out _ _ _ _ HL6.out).2.cell 1
     have y2 := (HPW.out _ _ _ _ HL6.out).2.cell 2
     have y3 := (HPW.out _ _ _ _ HL6.out).2.cell 3
     have y4 := (HPW.out _ _ _ _ HL6.out).2.cell 4
     have y5 := (HPW.out _ _ _ _ HL6.out).2.cell 5
     have y6 := (HPW.out _ _ _ _ HL6.out).2.cell 6
     have y7 := (HPW.out _ _ _ _ HL6.out).2.cell 7
     have y8 := (HPW.out _ _ _ _ HL6.out).2.cell 8
     have y9 := (HPW.out _ _ _ _ HL6.out).2.cell 9
     have y10 := (HPW.out _ _ _ _ HL6.out).2.cell 10
     have y11 := (HPW.out _ _ _ _ HL6.out).2.cell 11
     have y12 := (HPW.out _ _ _ _ HL6.out).2.cell 12
     simp only [List.getElem?_cons_zero, List.getElem?_cons_succ] at y0 y1 y2 y3 y4 y5 y6 y7 y8 y9 y10 y11 y12
     go_wp2_with fail
     refine (on_any' HL6.out i (L3.geti hij hik il) ⟨10, node, mode, tab, row, col, var, dst, eq, fro, upto, key, vals⟩ (.slice ka key.length kc) (.slice va vals.length vc) ⟨_, _, rfl⟩ ⟨_, _, rfl⟩ HKV.out (HF.out.few.2 _ (List.mem_of_getElem? HN.out)).2 (by show vs.length ≤ _; rw [HVL.out, HF.out.len]; exact HF.out.le) (by show IOk _ vs.length _ _; rw [HVL.out, HF.out.len]; exact HOK.out)).mono ?_
     rintro e w7 ⟨t, he, ht, h7⟩
     rw [L3.seti hij hik] at h7
     simp only at he ht h7
     obtain ⟨v7, hv7⟩ : ∃ v7, v7 = (onP ⟨10, node, mode, tab, row, col, var, dst, eq, fro, upto, key, vals⟩ vs).1 := ⟨_, rfl⟩
     obtain ⟨o7, ho7⟩ : ∃ o7, o7 = (onP ⟨10, node, mode, tab, row, col, var, dst, eq, fro, upto, key, vals⟩ vs).2 := ⟨_, rfl⟩
     rw [← ho7] at he ht
     rw [← hv7] at h7
     have HON : Hid (onP ⟨10, node, mode, tab, row, col, var, dst, eq, fro, upto, key, vals⟩ vs = (v7, o7)) := Lib.hid (by rw [hv7, ho7])
     clear hv7 ho7
     cases o7 with
     | none =>
      simp only [Option.isSome_none] at he
      subst he
      have HL7 := Lib.hid h7
      have b2 := (HL7.out.stR i (L3.geti hij hik il)).box.cell 2
      have bf := (HL7.out.stR i (L3.geti hij hik il)).box.free 2
      simp only [StV.cs, List.getElem?_cons_zero, List.getElem?_cons_succ] at b2
      clear h7 ht y0 y1 y2 y3 y4 y5 y6 y7 y8 y9 y10 y11 y12
      go_upto_region 20 with (fail)
      have h8 := HL7.out.stAt i (L3.geti hij hik il) (q.at' + 1) ((q.at' : Int) + 1) (by omega)
      rw [L3.seti hij hik] at h8
      obtain ⟨w8, hw8⟩ : ∃ w8, w8 = w7.setCell ⟨q.sb, 2, none⟩ (.int .i64 ((q.at' : Int) + 1)) := ⟨_, rfl⟩
      rw [← hw8] at h8 ⊢
      have HL8 := Lib.hid h8
      clear h8 hw8 b2 bf
      have hr8 : r = (⟨1, wt, wr, wy, wm, wto, wwr⟩, 0, ⟨q.at' + 1, v7, os, M6, lg2⟩) := by rw [HR5.out]; unfold wentP; simp only; rw [← HVS.out, ← HOS.out, ← HM6.out, HON.out]
      have HR8 := Lib.hid hr8
      clear hr8
      have x0 := (HPW.out _ _ _ _ HL8.out).1.cell 0
      have x1 := (HPW.out _ _ _ _ HL8.out).1.cell 1
      have x2 := (HPW.out _ _ _ _ HL8.out).1.cell 2
      have x3 := (HPW.out _ _ _ _ HL8.out).1.cell 3
      have x4 := (HPW.out _ _ _ _ HL8.out).1.cell 4
      have x5 := (HPW.out _ _ _ _ HL8.out).1.cell 5
      have x6 := (HPW.out _ _ _ _ HL8.out).1.cell 6
      simp only [List.getElem?_cons_zero, List.getElem?_cons_succ] at x0 x1 x2 x3 x4 x5 x6
      have z0 : w8.cell? ⟨b8, 0, none⟩ = some (.int .u8 0) := (HPB.out _ _ _ _ HL8.out).cell 0
      have z1 : w8.cell? ⟨b8, 1, none⟩ = some (.int .i64 0) := (HPB.out _ _ _ _ HL8.out).cell 1
      have z2 : w8.cell? ⟨b8, 2, none⟩ = some (.bool false) := (HPB.out _ _ _ _ HL8.out).cell 2
      have z3 : w8.cell? ⟨b8, 3, none⟩ = some (.int .i64 0) := (HPB.out _ _ _ _ HL8.out).cell 3
      have z4 : w8.cell? ⟨b8, 4, none⟩ = some (.int .u8 0) := (HPB.out _ _ _ _ HL8.out).cell 4
      have z5 : w8.cell? ⟨b8, 5, none⟩ = some (.bool false) := (HPB.out _ _ _ _ HL8.out).cell 5
      have z6 : w8.cell? ⟨b8, 6, none⟩ = some (.bool false) := (HPB.out _ _ _ _ HL8.out).cell 6
      have s8 := (HPB.out _ _ _ _ HL8.out).free
      go_wp2_with fail
      refine set7_world (HPB.out _ _ _ _ HL8.out) ?_
      intro w9 hb9 hf9
      have HLF := Lib.hid (step_fin (by rw [← HL2E.out]; exact HL8.out) hil hjl hkl (by rw [← HL2E.out]; exact HGB.out) hb9 hf9)
      have t0 := hb9.cell 0
      have t1 := hb9.cell 1
      have t2 := hb9.cell 2
      have t3 := hb9.cell 3
      have t4 := hb9.cell 4
      have t5 := hb9.cell 5
      have t6 := hb9.cell 6
      simp only [List.getElem?_cons_zero, List.getElem?_cons_succ] at t0 t1 t2 t3 t4 t5 t6
      clear hb9 hf9 x0 x1 x2 x3 x4 x5 x6 s8 z0 z1 z2 z3 z4 z5 z6
      go_wp2_with fail
      exact bodyPost_ret (v := .tuple #[(⟨1, wt, wr, wy, wm, wto, wwr⟩ : WantD).val, .int .i64 0]) (by simp [results, Tryz.results21, go_sem, t0, t1, t2, t3, t4, t5, t6]; try rfl) rfl ⟨by rw [HR8.out], ov, by rw [HR8.out]; exact HLF.out⟩
     | some x7 =>
      simp only [Option.isSome_some] at he
      subst he
      obtain rfl : t = x7 := ht x7 rfl
      have HD := onP_dst (n := ⟨10, node, mode, tab, row, col, var, dst, eq, fro, upto, key, vals⟩) (vars := vs) (t := t) (by rw [HON.out])
      have hd0 := (HOK.out.dst ⟨HD.2.1, HD.2.2⟩).1
      rw [← HD.1] at hd0
      have HL7 := Lib.hid h7
      have b2 := (HL7.out.stR i (L3.geti hij hik il)).box.cell 2
      have bf := (HL7.out.stR i (L3.geti hij hik il)).box.free 2
      simp only [StV.cs, List.getElem?_cons_zero, List.getElem?_cons_succ] at b2
      clear HD
      clear h7 ht y0 y1 y2 y3 y4 y5 y6 y7 y8 y9 y10 y11 y12
      go_upto_region 20 with (fail)
      have h8 := HL7.out.stAt i (L3.geti hij hik il) t.toNat t (by omega)
      rw [L3.seti hij hik] at h8
      obtain ⟨w8, hw8⟩ : ∃ w8, w8 = w7.setCell ⟨q.sb, 2, none⟩ (.int .i64 t) := ⟨_, rfl⟩
      rw [← hw8] at h8 ⊢
      have HL8 := Lib.hid h8
      clear h8 hw8 b2 bf
      have hr8 : r = (⟨1, wt, wr, wy, wm, wto, wwr⟩, 0, ⟨t.toNat, v7, os, M6, lg2⟩) := by rw [HR5.out]; unfold wentP; simp only; rw [← HVS.out, ← HOS.out, ← HM6.out, HON.out]
      have HR8 := Lib.hid hr8
      clear hr8
      have x0 := (HPW.out _ _ _ _ HL8.out).1.cell 0
      have x1 := (HPW.out _ _ _ _ HL8.out).1.cell 1
      have x2 := (HPW.out _ _ _ _ HL8.out).1.cell 2
      have x3 := (HPW.out _ _ _ _ HL8.out).1.cell 3
      have x4 := (HPW.out _ _ _ _ HL8.out).1.cell 4
      have x5 := (HPW.out _ _ _ _ HL8.out).1.cell 5
      have x6 := (HPW.out _ _ _ _ HL8.out).1.cell 6
      simp only [List.getElem?_cons_zero, List.getElem?_cons_succ] at x0 x1 x2 x3 x4 x5 x6
      have z0 : w8.cell? ⟨b8, 0, none⟩ = some (.int .u8 0) := (HPB.out _ _ _ _ HL8.out).cell 0
      have z1 : w8.cell? ⟨b8, 1, none⟩ = some (.int .i64 0) := (HPB.out _ _ _ _ HL8.out).cell 1
      have z2 : w8.cell? ⟨b8, 2, none⟩ = some (.bool false) := (HPB.out _ _ _ _ HL8.out).cell 2
      have z3 : w8.cell? ⟨b8, 3, none⟩ = some (.int .i64 0) := (HPB.out _ _ _ _ HL8.out).cell 3
      have z4 : w8.cell? ⟨b8, 4, none⟩ = some (.int .u8 0) := (HPB.out _ _ _ _ HL8.out).cell 4
      have z5 : w8.cell? ⟨b8, 5, none⟩ = some (.bool false) := (HPB.out _ _ _ _ HL8.out).cell 5
      have z6 : w8.cell? ⟨b8, 6, none⟩ = some (.bool false) := (HPB.out _ _ _ _ HL8.out).cell 6
      have s8 := (HPB.out _ _ _ _ HL8.out).free
      go_wp2_with fail
      refine set7_world (HPB.out _ _ _ _ HL8.out) ?_
      intro w9 hb9 hf9
      have HLF := Lib.hid (step_fin (by rw [← HL2E.out]; exact HL8.out) hil hjl hkl (by rw [← HL2E.out]; exact HGB.out) hb9 hf9)
      have t0 := hb9.cell 0
      have t1 := hb9.cell 1
      have t2 := hb9.cell 2
      have t3 := hb9.cell 3
      have t4 := hb9.cell 4
      have t5 := hb9.cell 5
      have t6 := hb9.cell 6
      simp only [List.getElem?_cons_zero, List.getElem?_cons_succ] at t0 t1 t2 t3 t4 t5 t6
      clear hb9 hf9 x0 x1 x2 x3 x4 x5 x6 s8 z0 z1 z2 z3 z4 z5 z6
      go_wp2_with fail
      exact bodyPost_ret (v := .tuple #[(⟨1, wt, wr, wy, wm, wto, wwr⟩ : WantD).val, .int .i64 0]) (by simp [results, Tryz.results21, go_sem, t0, t1, t2, t3, t4, t5, t6]; try rfl) rfl ⟨by rw [HR8.out], ov, by rw [HR8.out]; exact HLF.out⟩
    ·have y0 := fun o => (HY.out o).cell 0
     have y1 := fun o => (HY.out o).cell 1
     have y2 := fun o => (HY.out o).cell 2
     have y3 := fun o => (HY.out o).cell 3
     have y4 := fun o => (HY.out o).cell 4
     have y5 := fun o => (HY.out o).cell 5
     have y6 := fun o => (HY.out o).cell 6
     have y7 := fun o => (HY.out o).cell 7
     have y8 := fun o => (HY.out o).cell 8
     have y9 := fun o => (HY.out o).cell 9
     have y10 := fun o => (HY.out o).cell 10
     have y11 := fun o => (HY.out o).cell 11
     have y12 := fun o => (HY.out o).cell 12
     have x3 := fun o => (HXW.out o).cell 3
     simp only [List.getElem?_cons_zero, List.getElem?_cons_succ] at x3 y0 y1 y2 y3 y4 y5 y6 y7 y8 y9 y10 y11 y12
     clear ho1
     go_upto_region 16 with (fail)
     obtain ⟨w6, hw6⟩ : ∃ w6, w6 = wc.alloc (.cells #[.nilFunc, .nilFunc, .nilFunc, .func (.func 50) #[] #[], .func (.func 51) #[] #[], .func (.func 52) #[] #[], .func (.func 53) #[] #[], .func (.func 54) #[] #[], .func (.func 55) #[] #[], .func (.func 56) #[] #[], .nilFunc, .nilFunc, .nilFunc, .nilFunc, .nilFunc, .nilFunc, .nilFunc] 111) := ⟨_, rfl⟩
     have hf6 : Fr wc w6 Nil := by rw [hw6]; exact (Fr.refl wc Nil).alloc _
     rw [← hw6]
     have HKV := Lib.hid (show 10 ≤ (⟨11, node, mode, tab, row, col, var, dst, eq, fro, upto, key, vals⟩ : InstrD).op → TermsAt w6 (.slice ka key.length kc) key ∧ ValsAt w6 (.slice va vals.length vc) vals from fun _ => ⟨HK5.out.fr0 hf6, HV5.out.fr0 hf6⟩)
     obtain ⟨-, ov, h6⟩ := do_none (n := ⟨11, node, mode, tab, row, col, var, dst, eq, fro, upto, key, vals⟩) (HL5.out.fr0 hf6) (.inr (show (9 : Int) < 11 by decide))
     clear hw6 hf6
     have HL6 : Hid (Lies w0 w6 (L3 l2 i j k (stT { q with vars := doV ⟨11, node, mode, tab, row, col, var, dst, eq, fro, upto, key, vals⟩ q.vars M, out := doO ⟨11, node, mode, tab, row, col, var, dst, eq, fro, upto, key, vals⟩ q.vars q.out, ov := ov }) (rowsT rb (doM ⟨11, node, mode, tab, row, col, var, dst, eq, fro, upto, key, vals⟩ q.vars M)) (logT ub most lg2))) := Lib.hid h6
     clear h6 x3 y0 y1 y2 y3 y4 y5 y6 y7 y8 y9 y10 y11 y12
     obtain ⟨vs, hvs⟩ : ∃ vs, vs = doV ⟨11, node, mode, tab, row, col, var, dst, eq, fro, upto, key, vals⟩ q.vars M := ⟨_, rfl⟩
     obtain ⟨os, hos⟩ : ∃ os, os = doO ⟨11, node, mode, tab, row, col, var, dst, eq, fro, upto, key, vals⟩ q.vars q.out := ⟨_, rfl⟩
     obtain ⟨M6, hM6⟩ : ∃ M6, M6 = doM ⟨11, node, mode, tab, row, col, var, dst, eq, fro, upto, key, vals⟩ q.vars M := ⟨_, rfl⟩
     have HVS := Lib.hid hvs
     have HOS := Lib.hid hos
     have HM6 := Lib.hid hM6
     rw [← hvs, ← hos, ← hM6] at HL6
     have HVL : Hid (vs.length = q.vars.length) := Lib.hid (by rw [hvs]; exact doV_len _ _)
     clear hvs hos hM6
     have y0 := (HPW.out _ _ _ _ HL6.out).2.cell 0
     have y1 := (HPW.out _ _ _ _ HL6.out).2.cell 1
     have y2 := (HPW.out _ _ _ _ HL6.out).2.cell 2
     have y3 := (HPW.out _ _ _ _ HL6.out).2.cell 3
     have y4 := (HPW.out _ _ _ _ HL6.out).2.cell 4
     have y5 := (HPW.out _ _ _ _ HL6.out).2.cell 5
     have y6 := (HPW.out _ _ _ _ HL6.out).2.cell 6
     have y7 := (HPW.out _ _ _ _ HL6.out).2.cell 7
     have y8 := (HPW.out _ _ _ _ HL6.out).2.cell 8
     have y9 := (HPW.out _ _ _ _ HL6.out).2.cell 9
     have y10 := (HPW.out _ _ _ _ HL6.out).2.cell 10
     have y11 := (HPW.out _ _ _ _ HL6.out).2.cell 11
     have y12 := (HPW.out _ _ _ _ HL6.out).2.cell 12
     simp only [List.getElem?_cons_zero, List.getElem?_cons_succ] at y0 y1 y2 y3 y4 y5 y6 y7 y8 y9 y10 y11 y12
     go_wp2_with fail
     refine (on_any' HL6.out i (L3.geti hij hik il) ⟨11, node, mode, tab, row, col, var, dst, eq, fro, upto, key, vals⟩ (.slice ka key.length kc) (.slice va vals.length vc) ⟨_, _, rfl⟩ ⟨_, _, rfl⟩ HKV.out (HF.out.few.2 _ (List.mem_of_getElem? HN.out)).2 (by show vs.length ≤ _; rw [HVL.out, HF.out.len]; exact HF.out.le) (by show IOk _ vs.length _ _; rw [HVL.out, HF.out.len]; exact HOK.out)).mono ?_
     rintro e w7 ⟨t, he, ht, h7⟩
     rw [L3.seti hij hik] at h7
     simp only at he ht h7
     obtain ⟨v7, hv7⟩ : ∃ v7, v7 = (onP ⟨11, node, mode, tab, row, col, var, dst, eq, fro, upto, key, vals⟩ vs).1 := ⟨_, rfl⟩
     obtain ⟨o7, ho7⟩ : ∃ o7, o7 = (onP ⟨11, node, mode, tab, row, col, var, dst, eq, fro, upto, key, vals⟩ vs).2 := ⟨_, rfl⟩
     rw [← ho7] at he ht
     rw [← hv7] at h7
     have HON : Hid (onP ⟨11, node, mode, tab, row, col, var, dst, eq, fro, upto, key, vals⟩ vs = (v7, o7)) := Lib.hid (by rw [hv7, ho7])
     clear hv7 ho7
     cases o7 with
     | none =>
      simp only [Option.isSome_none] at he
      subst he
      have HL7 := Lib.hid h7
      have b2 := (HL7.out.stR i (L3.geti hij hik il)).box.cell 2
      have bf := (HL7.out.stR i (L3.geti hij hik il)).box.free 2
      simp only [StV.cs, List.getElem?_cons_zero, List.getElem?_cons_succ] at b2
      clear h7 ht y0 y1 y2 y3 y4 y5 y6 y7 y8 y9 y10 y11 y12
      go_upto_region 20 with (fail)
      have h8 := HL7.out.stAt i (L3.geti hij hik il) (q.at' + 1) ((q.at' : Int) + 1) (by omega)
      rw [L3.seti hij hik] at h8
      obtain ⟨w8, hw8⟩ : ∃ w8, w8 = w7.setCell ⟨q.sb, 2, none⟩ (.int .i64 ((q.at' : Int) + 1)) := ⟨_, rfl⟩
      rw [← hw8] at h8 ⊢
      have HL8 := Lib.hid h8
      clear h8 hw8 b2 bf
      have hr8 : r = (⟨1, wt, wr, wy, wm, wto, wwr⟩, 0, ⟨q.at' + 1, v7, os, M6, lg2⟩) := by rw [HR5.out]; unfold wentP; simp only; rw [← HVS.out, ← HOS.out, ← HM6.out, HON.out]
      have HR8 := Lib.hid hr8
      clear hr8
      have x0 := (HPW.out _ _ _ _ HL8.out).1.cell 0
      have x1 := (HPW.out _ _ _ _ HL8.out).1.cell 1
      have x2 := (HPW.out _ _ _ _ HL8.out).1.cell 2
      have x3 := (HPW.out _ _ _ _ HL8.out).1.cell 3
      have x4 := (HPW.out _ _ _ _ HL8.out).1.cell 4
      have x5 := (HPW.out _ _ _ _ HL8.out).1.cell 5
      have x6 := (HPW.out _ _ _ _ HL8.out).1.cell 6
      simp only [List.getElem?_cons_zero, List.getElem?_cons_succ] at x0 x1 x2 x3 x4 x5 x6
      have z0 : w8.cell? ⟨b8, 0, none⟩ = some (.int .u8 0) := (HPB.out _ _ _ _ HL8.out).cell 0
      have z1 : w8.cell? ⟨b8, 1, none⟩ = some (.int .i64 0) := (HPB.out _ _ _ _ HL8.out).cell 1
      have z2 : w8.cell? ⟨b8, 2, none⟩ = some (.bool false) := (HPB.out _ _ _ _ HL8.out).cell 2
      have z3 : w8.cell? ⟨b8, 3, none⟩ = some (.int .i64 0) := (HPB.out _ _ _ _ HL8.out).cell 3
      have z4 : w8.cell? ⟨b8, 4, none⟩ = some (.int .u8 0) := (HPB.out _ _ _ _ HL8.out).cell 4
      have z5 : w8.cell? ⟨b8, 5, none⟩ = some (.bool false) := (HPB.out _ _ _ _ HL8.out).cell 5
      have z6 : w8.cell? ⟨b8, 6, none⟩ = some (.bool false) := (HPB.out _ _ _ _ HL8.out).cell 6
      have s8 := (HPB.out _ _ _ _ HL8.out).free
      go_wp2_with fail
      refine set7_world (HPB.out _ _ _ _ HL8.out) ?_
      intro w9 hb9 hf9
      have HLF := Lib.hid (step_fin (by rw [← HL2E.out]; exact HL8.out) hil hjl hkl (by rw [← HL2E.out]; exact HGB.out) hb9 hf9)
      have t0 := hb9.cell 0
      have t1 := hb9.cell 1
      have t2 := hb9.cell 2
      have t3 := hb9.cell 3
      have t4 := hb9.cell 4
      have t5 := hb9.cell 5
      have t6 := hb9.cell 6
      simp only [List.getElem?_cons_zero, List.getElem?_cons_succ] at t0 t1 t2 t3 t4 t5 t6
      clear hb9 hf9 x0 x1 x2 x3 x4 x5 x6 s8 z0 z1 z2 z3 z4 z5 z6
      go_wp2_with fail
      exact bodyPost_ret (v := .tuple #[(⟨1, wt, wr, wy, wm, wto, wwr⟩ : WantD).val, .int .i64 0]) (by simp [results, Tryz.results21, go_sem, t0, t1, t2, t3, t4, t5, t6]; try rfl) rfl ⟨by rw [HR8.out], ov, by rw [HR8.out]; exact HLF.out⟩
     | some x7 =>
      simp only [Option.isSome_some] at he
      subst he
      obtain rfl : t = x7 := ht x7 rfl
      have HD := onP_dst (n := ⟨11, node, mode, tab, row, col, var, dst, eq, fro, upto, key, vals⟩) (vars := vs) (t := t) (by rw [HON.out])
      have hd0 := (HOK.out.dst ⟨HD.2.1, HD.2.2⟩).1
      rw [← HD.1] at hd0
      have HL7 := Lib.hid h7
      have b2 := (HL7.out.stR i (L3.geti hij hik il)).box.cell 2
      have bf := (HL7.out.stR i (L3.geti hij hik il)).box.free 2
      simp only [StV.cs, List.getElem?_cons_zero, List.getElem?_cons_succ] at b2
      clear HD
      clear h7 ht y0 y1 y2 y3 y4 y5 y6 y7 y8 y9 y10 y11 y12
      go_upto_region 20 with (fail)
      have h8 := HL7.out.stAt i (L3.geti hij hik il) t.toNat t (by omega)
      rw [L3.seti hij hik] at h8
      obtain ⟨w8, hw8⟩ : ∃ w8, w8 = w7.setCell ⟨q.sb, 2, none⟩ (.int .i64 t) := ⟨_, rfl⟩
      rw [← hw8] at h8 ⊢
      have HL8 := Lib.hid h8
      clear h8 hw8 b2 bf
      have hr8 : r = (⟨1, wt, wr, wy, wm, wto, wwr⟩, 0, ⟨t.toNat, v7, os, M6, lg2⟩) := by rw [HR5.out]; unfold wentP; simp only; rw [← HVS.out, ← HOS.out, ← HM6.out, HON.out]
      have HR8 := Lib.hid hr8
      clear hr8
      have x0 := (HPW.out _ _ _ _ HL8.out).1.cell 0
      have x1 := (HPW.out _ _ _ _ HL8.out).1.cell 1
      have x2 := (HPW.out _ _ _ _ HL8.out).1.cell 2
      have x3 := (HPW.out _ _ _ _ HL8.out).1.cell 3
      have x4 := (HPW.out _ _ _ _ HL8.out).1.cell 4
      have x5 := (HPW.out _ _ _ _ HL8.out).1.cell 5
      have x6 := (HPW.out _ _ _ _ HL8.out).1.cell 6
      simp only [List.getElem?_cons_zero, List.getElem?_cons_succ] at x0 x1 x2 x3 x4 x5 x6
      have z0 : w8.cell? ⟨b8, 0, none⟩ = some (.int .u8 0) := (HPB.out _ _ _ _ HL8.out).cell 0
      have z1 : w8.cell? ⟨b8, 1, none⟩ = some (.int .i64 0) := (HPB.out _ _ _ _ HL8.out).cell 1
      have z2 : w8.cell? ⟨b8, 2, none⟩ = some (.bool false) := (HPB.out _ _ _ _ HL8.out).cell 2
      have z3 : w8.cell? ⟨b8, 3, none⟩ = some (.int .i64 0) := (HPB.out _ _ _ _ HL8.out).cell 3
      have z4 : w8.cell? ⟨b8, 4, none⟩ = some (.int .u8 0) := (HPB.out _ _ _ _ HL8.out).cell 4
      have z5 : w8.cell? ⟨b8, 5, none⟩ = some (.bool false) := (HPB.out _ _ _ _ HL8.out).cell 5
      have z6 : w8.cell? ⟨b8, 6, none⟩ = some (.bool false) := (HPB.out _ _ _ _ HL8.out).cell 6
      have s8 := (HPB.out _ _ _ _ HL8.out).free
      go_wp2_with fail
      refine set7_world (HPB.out _ _ _ _ HL8.out) ?_
      intro w9 hb9 hf9
      have HLF := Lib.hid (step_fin (by rw [← HL2E.out]; exact HL8.out) hil hjl hkl (by rw [← HL2E.out]; exact HGB.out) hb9 hf9)
      have t0 := hb9.cell 0
      have t1 := hb9.cell 1
      have t2 := hb9.cell 2
      have t3 := hb9.cell 3
      have t4 := hb9.cell 4
      have t5 := hb9.cell 5
      have t6 := hb9.cell 6
      simp only [List.getElem?_cons_zero, List.getElem?_cons_succ] at t0 t1 t2 t3 t4 t5 t6
      clear hb9 hf9 x0 x1 x2 x3 x4 x5 x6 s8 z0 z1 z2 z3 z4 z5 z6
      go_wp2_with fail
      exact bodyPost_ret (v := .tuple #[(⟨1, wt, wr, wy, wm, wto, wwr⟩ : WantD).val, .int .i64 0]) (by simp [results, Tryz.results21, go_sem, t0, t1, t2, t3, t4, t5, t6]; try rfl) rfl ⟨by rw [HR8.out], ov, by rw [HR8.out]; exact HLF.out⟩
  ·exact absurd ((nextP_kind q.vars (HF.out.ok.all _ _ HN.out).lo (HF.out.ok.all _ _ HN.out).hi).2 (show (3 : Int) ≤ op ∧ op ≤ 13 by omega)) (by rw [← HX.out]; exact hk1)
end
end Go.Proofs.YtgpekgnhbccnoaaGreat
namespace Go.Proofs.YtgpekgnhbccnoaaGreat
open Go Go.RowKit
attribute [local go_sem ↓] Go.wp_at_zero Go.wp_at_succ
attribute [local go_sem] Tryz.someFunc Tryz.noFunc

section
variable {w0 W : World} {l : List Thing} {q : StV} {M : List MTab} {rb ub : Nat} {most : Int} {lg : List (Int × Ent)}
set_option maxRecDepth 100000 in
set_option maxHeartbeats 16000000 in
theorem step_12_13 (h : Lies w0 W l) (i j k : Nat) (hi : l[i]? = some (stT q)) (hj : l[j]? = some (rowsT rb M)) (hk : l[k]? = some (logT ub most lg)) (hij : i ≠ j) (hik : i ≠ k) (hjk : j ≠ k) (nv : Nat) (hf : StF q nv) (n : InstrD) (hn : q.L[q.at']? = some n) (hg : Good M) (hc : colsN M = q.TB) (who : Int) (hw : (Lit.int .i64 who).wf = true) (hll : lg.length ≤ 100000) (hol : q.out.length ≤ 100000) (hgr : n.op = 12 ∨ n.op = 13) :
  Calls Tryz.prog 21 #[.pointer (some ⟨q.sb, 0, none⟩), .int .i64 who, rptr rb, lptr ub] W (StepRet w0 l i j k q rb ub most (stepM q.L most who ⟨q.at', q.vars, q.out, M, lg⟩)) := by
 obtain ⟨iW, hiW, hsW⟩ := info_size Tryz.infoWant
 obtain ⟨iI, hiI, hsI⟩ := info_size Tryz.infoIns
 have hLl := hf.few.1
 have hat := hf.at'
 have hil := (List.getElem?_eq_some_iff.1 hi).1
 have hjl := (List.getElem?_eq_some_iff.1 hj).1
 have hkl := (List.getElem?_eq_some_iff.1 hk).1
 have HGN : Hid (q.L.getD q.at' default = n) := Lib.hid (by rw [List.getD_eq_getElem?_getD, hn]; rfl)
 obtain ⟨r, hr⟩ : ∃ r, r = stepM q.L most who ⟨q.at', q.vars, q.out, M, lg⟩ := ⟨_, rfl⟩
 rw [← hr]
 have HR := Lib.hid hr
 clear hr
 obtain ⟨w1, hw1⟩ : ∃ w1, w1 = W.alloc (.cells wantZ 50) := ⟨_, rfl⟩
 obtain ⟨b8, hb8⟩ : ∃ b8, b8 = W.heap.size := ⟨_, rfl⟩
 have HL1 : Hid (Lies w0 w1 (l ++ [bkT b8 50 wantZ.toList])) := by rw [hw1, hb8]; exact Lib.hid (h.newBk _ _)
 have HI1 : Hid ((l ++ [bkT b8 50 wantZ.toList])[i]? = some (stT q)) := Lib.hid (by rw [List.getElem?_append_left hil]; exact hi)
 have HJ1 : Hid ((l ++ [bkT b8 50 wantZ.toList])[j]? = some (rowsT rb M)) := Lib.hid (by rw [List.getElem?_append_left hjl]; exact hj)
 have HW1 := Lib.hid hw1
 have HB8 := Lib.hid hb8
 have HI := Lib.hid hi
 have HJ := Lib.hid hj
 have HK := Lib.hid hk
 have HF := Lib.hid hf
 have HN := Lib.hid hn
 have HG := Lib.hid hg
 have HC := Lib.hid hc
 have b1 := (HL1.out.stR i HI1.out).box.cell 1
 have htb := (HL1.out.stR i HI1.out).tabs
 obtain ⟨ta, tc, htv⟩ := htb.shape
 simp only [StV.cs, List.getElem?_cons_zero, List.getElem?_cons_succ] at b1
 rw [htv] at b1 htb
 rw [hw1] at b1
 have HTB := Lib.hid htb
 clear h hi hj hk hf hn hg hc hw1 htv hb8 htb
 go_enter Tryz.func21, Tryz.ntmps21
 go_wp2_with fail
 rw [← HW1.out, ← HB8.out]
 refine (fits_any HL1.out j HJ1.out _ HTB.out HG.out HC.out).mono ?_
 rintro e w2 ⟨rfl, hf2⟩
 have HL2 := Lib.hid (HL1.out.fr0 hf2)
 clear hf2 b1
 have b0 := (HL2.out.stR i HI1.out).box.cell 0
 have b2 := (HL2.out.stR i HI1.out).box.cell 2
 simp only [StV.cs, List.getElem?_cons_zero, List.getElem?_cons_succ] at b0 b2
 obtain ⟨b, off, cap, hlv, hlc⟩ := (HL2.out.stR i HI1.out).code.form (by omega)
 have HLV := Lib.hid hlv
 rw [hlv] at b0
 have HNX := Lib.hid (fun (w : World) (hf : Fr w2 w Nil) => next_any q nv n w ((HL2.out.stR i HI1.out).fr0 hf) HF.out HN.out)
 obtain ⟨ka, kc, va, vc, hkt, hvt, p0, p1, p2, p3, p4, p5, p6, p7, p8, p9, p10, p11, p12⟩ := (hlc q.at' n HN.out).cell
 have HKT := Lib.hid hkt
 have HVT := Lib.hid hvt
 have HP11 := Lib.hid p11
 have HP12 := Lib.hid p12
 have k0 := KeptF.cell b0
 have k2 := KeptF.cell b2
 have j0 := KeptF.cell p0
 have j1 := KeptF.cell p1
 have j2 := KeptF.cell p2
 have j3 := KeptF.cell p3
 have j4 := KeptF.cell p4
 have j5 := KeptF.cell p5
 have j6 := KeptF.cell p6
 have j7 := KeptF.cell p7
 have j8 := KeptF.cell p8
 have j9 := KeptF.cell p9
 have j10 := KeptF.cell p10
 have j11 := KeptF.cell p11
 have j12 := KeptF.cell p12
 clear hlc hlv hkt hvt b0 b2 p0 p1 p2 p3 p4 p5 p6 p7 p8 p9 p10 p11 p12
 obtain ⟨op, node, mode, tab, row, col, var, dst, eq, fro, upto, key, vals⟩ := n
 simp only at HKT HVT HP11 HP12 j0 j1 j2 j3 j4 j5 j6 j7 j8 j9 j10 j11 j12
 obtain ⟨x, hx⟩ : ∃ x, x = nextP ⟨op, node, mode, tab, row, col, var, dst, eq, fro, upto, key, vals⟩ q.vars := ⟨_, rfl⟩
 rw [← hx] at HNX
 have HX := Lib.hid hx
 clear hx
 obtain ⟨wk, wt, wr, wy, wm, wto, wwr⟩ := x
 simp only [WantD.val] at HNX
 go_wp2_with fail
 go_cut [10, 11] from 38 to 49 (fun v10 v11 wx => ∃ bw bn, v10 = .pointer (some ⟨bw, 0, none⟩) ∧ v11 = .pointer (some ⟨bn, 0, none⟩) ∧ Bk wx bw 50 [.int .u8 wk, .int .i64 wt, .bool wr, .int .i64 wy, .int .u8 wm, .bool wto, .bool wwr] ∧ Bk wx bn 81 [.int .u8 op, .int .i64 node, .int .u8 mode, .int .i64 tab, .bool row, .int .i64 col, .int .i64 var, .int .i64 dst, .bool eq, .int .i64 fro, .int .i64 upto, .slice ka key.length kc, .slice va vals.length vc] ∧ w2.heap.size ≤ bw ∧ w2.heap.size ≤ bn ∧ Fr w2 wx Nil)
 case first =>
  refine wp_region_sink 15 (KeptF w2) (by kernel_rfl) ?_
  have hS0 : KeptF w2 w2.drew := KeptF.start _
  refine tk 0 hS0 ?_
  refine tk 2 hS0 ?_
  refine tk 3 hS0 ?_
  refine tk 4 hS0 ?_
  try simp only [Act.put, sA, sB, sC]
  refine tk 5 hS0 ?_ (hy := by intro _ w; have ck0 := k0 _ w; go_simp <;> with_reducible rfl)
  try simp only [Act.put, sA, sB, sC]
  refine tk 6 hS0 ?_
  refine tk 7 hS0 ?_
  refine tk 8 hS0 ?_
  try simp only [Act.put, sA, sB, sC]
  refine tk 9 hS0 ?_ (hy := by intro _ w; have ck2 := k2 _ w; go_simp <;> with_reducible rfl)
  try simp only [Act.put, sA, sB, sC]
  refine tk 10 hS0 ?_
  try simp only [Act.put, sA, sB, sC]
  refine tk 11 hS0 ?_ (hy := by intro _ w; have cj0 := j0 _ w; have cj1 := j1 _ w; have cj2 := j2 _ w; have cj3 := j3 _ w; have cj4 := j4 _ w; have cj5 := j5 _ w; have cj6 := j6 _ w; have cj7 := j7 _ w; have cj8 := j8 _ w; have cj9 := j9 _ w; have cj10 := j10 _ w; have cj11 := j11 _ w; have cj12 := j12 _ w; go_simp <;> with_reducible rfl)
  try simp only [Act.put, sA, sB, sC]
  refine wpAnyS_three (i := 1) (j := 12) (k := 13) rfl rfl rfl (by kernel_rfl) (by decide) (by decide) (by decide) (by rfl) (by rfl) (by rfl) (fun K hK => ?_) (fun K hK => ?_) (fun K hK => ?_)
  go_simp
  refine (HNX.out _ (KeptF.fr hS0)).mono ?_
  rintro e u1 ⟨he, hfc⟩
  subst he
  have hS1 := KeptF.next hS0 hfc
  refine hK.out _ _ hS1 ?_
  clear hK K
  try simp only [Act.put, sA, sB, sC]
  have hz1 := hfc.size
  (try simp only [World.size_alloc] at hz1)
  refine wpAnyS_two (i := 12) (j := 13) rfl rfl (by kernel_rfl) (by decide) (by decide) (by rfl) (by rfl) (fun K hK => ?_) (fun K hK => ?_)
  go_simp
  have hbW : Bk (u1.alloc (.cells wantZ 50)) u1.heap.size 50 wantZ.toList := Bk.new _ _ _
  have hnW : w2.heap.size ≤ u1.heap.size := by have h9 := (KeptF.fr hS1).size; (try simp only [World.size_alloc] at h9); (try simp at h9); have hd0 : w2.drew.heap.size = w2.heap.size := rfl; omega
  have hS2 := KeptF.next hS1 ((Fr.refl _ Nil).alloc (.cells wantZ 50))
  refine hK.out _ _ hS2 ?_
  clear hK K
  try simp only [Act.put, sA, sB, sC]
  refine on1 13 fun K hK => ?_
  go_simp
  have hbI : Bk ((u1.alloc (.cells wantZ 50)).alloc (.cells insZ 81)) (u1.heap.size + 1) 81 insZ.toList := by have h9 := Bk.new (u1.alloc (.cells wantZ 50)) 81 insZ; rwa [World.size_alloc] at h9
  have hnI : w2.heap.size ≤ (u1.heap.size + 1) := by have h9 := (KeptF.fr hS2).size; (try simp only [World.size_alloc] at h9); (try simp at h9); have hd0 : w2.drew.heap.size = w2.heap.size := rfl; omega
  have hS3 := KeptF.next hS2 ((Fr.refl _ Nil).alloc (.cells insZ 81))
  have hneI : ¬ ((u1.heap.size + 1)) = (u1.heap.size) := by have hd0 : w2.drew.heap.size = w2.heap.size := rfl; omega
  refine hK.out _ _ hS3 ?_
  clear hK K
  try simp only [Act.put, sA, sB, sC]
  have hbZ := (hbW.alloc (.cells insZ 81))
  have hbY := hbI
  have hSZ := hS3
  rotate_left
  go_simp
  have hbI : Bk (u1.alloc (.cells insZ 81)) u1.heap.size 81 insZ.toList := Bk.new _ _ _
  have hnI : w2.heap.size ≤ u1.heap.size := by have h9 := (KeptF.fr hS1).size; (try simp only [World.size_alloc] at h9); (try simp at h9); have hd0 : w2.drew.heap.size = w2.heap.size := rfl; omega
  have hS2 := KeptF.next hS1 ((Fr.refl _ Nil).alloc (.cells insZ 81))
  refine hK.out _ _ hS2 ?_
  clear hK K
  try simp only [Act.put, sA, sB, sC]
  refine on1 12 fun K hK => ?_
  go_simp
  have hbW : Bk ((u1.alloc (.cells insZ 81)).alloc (.cells wantZ 50)) (u1.heap.size + 1) 50 wantZ.toList := by have h9 := Bk.new (u1.alloc (.cells insZ 81)) 50 wantZ; rwa [World.size_alloc] at h9
  have hnW : w2.heap.size ≤ (u1.heap.size + 1) := by have h9 := (KeptF.fr hS2).size; (try simp only [World.size_alloc] at h9); (try simp at h9); have hd0 : w2.drew.heap.size = w2.heap.size := rfl; omega
  have hS3 := KeptF.next hS2 ((Fr.refl _ Nil).alloc (.cells wantZ 50))
  have hneI : ¬ (u1.heap.size) = ((u1.heap.size + 1)) := by have hd0 : w2.drew.heap.size = w2.heap.size := rfl; omega
  refine hK.out _ _ hS3 ?_
  clear hK K
  try simp only [Act.put, sA, sB, sC]
  have hbZ := hbW
  have hbY := (hbI.alloc (.cells wantZ 50))
  have hSZ := hS3
  rotate_left
  go_simp
  have hbW : Bk (w2.drew.alloc (.cells wantZ 50)) w2.heap.size 50 wantZ.toList := Bk.new _ _ _
  have hnW : w2.heap.size ≤ w2.heap.size := by have h9 := (KeptF.fr hS0).size; (try simp only [World.size_alloc] at h9); (try simp at h9); have hd0 : w2.drew.heap.size = w2.heap.size := rfl; omega
  have hS1 := KeptF.next hS0 ((Fr.refl _ Nil).alloc (.cells wantZ 50))
  refine hK.out _ _ hS1 ?_
  clear hK K
  try simp only [Act.put, sA, sB, sC]
  refine wpAnyS_two (i := 1) (j := 13) rfl rfl (by kernel_rfl) (by decide) (by decide) (by rfl) (by rfl) (fun K hK => ?_) (fun K hK => ?_)
  go_simp
  refine (HNX.out _ (KeptF.fr hS1)).mono ?_
  rintro e u2 ⟨he, hfc⟩
  subst he
  have hS2 := KeptF.next hS1 hfc
  refine hK.out _ _ hS2 ?_
  clear hK K
  try simp only [Act.put, sA, sB, sC]
  have hz2 := hfc.size
  (try simp only [World.size_alloc] at hz2)
  refine on1 13 fun K hK => ?_
  go_simp
  have hbI : Bk (u2.alloc (.cells insZ 81)) u2.heap.size 81 insZ.toList := Bk.new _ _ _
  have hnI : w2.heap.size ≤ u2.heap.size := by have h9 := (KeptF.fr hS2).size; (try simp only [World.size_alloc] at h9); (try simp at h9); have hd0 : w2.drew.heap.size = w2.heap.size := rfl; omega
  have hS3 := KeptF.next hS2 ((Fr.refl _ Nil).alloc (.cells insZ 81))
  have hneI : ¬ (u2.heap.size) = (w2.heap.size) := by have hd0 : w2.drew.heap.size = w2.heap.size := rfl; omega
  refine hK.out _ _ hS3 ?_
  clear hK K
  try simp only [Act.put, sA, sB, sC]
  have hbZ := ((hbW.fr hfc fun h => h).alloc (.cells insZ 81))
  have hbY := hbI
  have hSZ := hS3
  rotate_left
  go_simp
  have hbI : Bk ((w2.drew.alloc (.cells wantZ 50)).alloc (.cells insZ 81)) (w2.heap.size + 1) 81 insZ.toList := by have h9 := Bk.new (w2.drew.alloc (.cells wantZ 50)) 81 insZ; rwa [World.size_alloc] at h9
  have hnI : w2.heap.size ≤ (w2.heap.size + 1) := by have h9 := (KeptF.fr hS1).size; (try simp only [World.size_alloc] at h9); (try simp at h9); have hd0 : w2.drew.heap.size = w2.heap.size := rfl; omega
  have hS2 := KeptF.next hS1 ((Fr.refl _ Nil).alloc (.cells insZ 81))
  have hneI : ¬ ((w2.heap.size + 1)) = (w2.heap.size) := by have hd0 : w2.drew.heap.size = w2.heap.size := rfl; omega
  refine hK.out _ _ hS2 ?_
  clear hK K
  try simp only [Act.put, sA, sB, sC]
  refine on1 1 fun K hK => ?_
  go_simp
  refine (HNX.out _ (KeptF.fr hS2)).mono ?_
  rintro e u3 ⟨he, hfc⟩
  subst he
  have hS3 := KeptF.next hS2 hfc
  refine hK.out _ _ hS3 ?_
  clear hK K
  try simp only [Act.put, sA, sB, sC]
  have hz3 := hfc.size
  (try simp only [World.size_alloc] at hz3)
  have hbZ := ((hbW.alloc (.cells insZ 81)).fr hfc fun h => h)
  have hbY := (hbI.fr hfc fun h => h)
  have hSZ := hS3
  rotate_left
  go_simp
  have hbI : Bk (w2.drew.alloc (.cells insZ 81)) w2.heap.size 81 insZ.toList := Bk.new _ _ _
  have hnI : w2.heap.size ≤ w2.heap.size := by have h9 := (KeptF.fr hS0).size; (try simp only [World.size_alloc] at h9); (try simp at h9); have hd0 : w2.drew.heap.size = w2.heap.size := rfl; omega
  have hS1 := KeptF.next hS0 ((Fr.refl _ Nil).alloc (.cells insZ 81))
  refine hK.out _ _ hS1 ?_
  clear hK K
  try simp only [Act.put, sA, sB, sC]
  refine wpAnyS_two (i := 1) (j := 12) rfl rfl (by kernel_rfl) (by decide) (by decide) (by rfl) (by rfl) (fun K hK => ?_) (fun K hK => ?_)
  go_simp
  refine (HNX.out _ (KeptF.fr hS1)).mono ?_
  rintro e u2 ⟨he, hfc⟩
  subst he
  have hS2 := KeptF.next hS1 hfc
  refine hK.out _ _ hS2 ?_
  clear hK K
  try simp only [Act.put, sA, sB, sC]
  have hz2 := hfc.size
  (try simp only [World.size_alloc] at hz2)
  refine on1 12 fun K hK => ?_
  go_simp
  have hbW : Bk (u2.alloc (.cells wantZ 50)) u2.heap.size 50 wantZ.toList := Bk.new _ _ _
  have hnW : w2.heap.size ≤ u2.heap.size := by have h9 := (KeptF.fr hS2).size; (try simp only [World.size_alloc] at h9); (try simp at h9); have hd0 : w2.drew.heap.size = w2.heap.size := rfl; omega
  have hS3 := KeptF.next hS2 ((Fr.refl _ Nil).alloc (.cells wantZ 50))
  have hneI : ¬ (w2.heap.size) = (u2.heap.size) := by have hd0 : w2.drew.heap.size = w2.heap.size := rfl; omega
  refine hK.out _ _ hS3 ?_
  clear hK K
  try simp only [Act.put, sA, sB, sC]
  have hbZ := hbW
  have hbY := ((hbI.fr hfc fun h => h).alloc (.cells wantZ 50))
  have hSZ := hS3
  rotate_left
  go_simp
  have hbW : Bk ((w2.drew.alloc (.cells insZ 81)).alloc (.cells wantZ 50)) (w2.heap.size + 1) 50 wantZ.toList := by have h9 := Bk.new (w2.drew.alloc (.cells insZ 81)) 50 wantZ; rwa [World.size_alloc] at h9
  have hnW : w2.heap.size ≤ (w2.heap.size + 1) := by have h9 := (KeptF.fr hS1).size; (try simp only [World.size_alloc] at h9); (try simp at h9); have hd0 : w2.drew.heap.size = w2.heap.size := rfl; omega
  have hS2 := KeptF.next hS1 ((Fr.refl _ Nil).alloc (.cells wantZ 50))
  have hneI : ¬ (w2.heap.size) = ((w2.heap.size + 1)) := by have hd0 : w2.drew.heap.size = w2.heap.size := rfl; omega
  refine hK.out _ _ hS2 ?_
  clear hK K
  try simp only [Act.put, sA, sB, sC]
  refine on1 1 fun K hK => ?_
  go_simp
  refine (HNX.out _ (KeptF.fr hS2)).mono ?_
  rintro e u3 ⟨he, hfc⟩
  subst he
  have hS3 := KeptF.next hS2 hfc
  refine hK.out _ _ hS3 ?_
  clear hK K
  try simp only [Act.put, sA, sB, sC]
  have hz3 := hfc.size
  (try simp only [World.size_alloc] at hz3)
  have hbZ := (hbW.fr hfc fun h => h)
  have hbY := ((hbI.alloc (.cells wantZ 50)).fr hfc fun h => h)
  have hSZ := hS3
  rotate_left
  all_goals
   refine on1 14 fun K hK => ?_
   refine wp_store_bk 50 _ _ rfl _ _ _ [.int .u8 wk, .int .i64 wt, .bool wr, .int .i64 wy, .int .u8 wm, .bool wto, .bool wwr] _ rfl rfl rfl iW hiW hsW hbZ rfl (by simp [Value.oneCell']) ?_
   intro w8 hb8 hf8
   have hS8 : KeptF w2 w8 := KeptF.store hSZ hf8 hnW
   refine hK.out _ _ hS8 ?_
   clear hK K
   refine wpAnyS_last (i := 15) rfl (by kernel_rfl) (by decide) (by kernel_rfl) (by rfl) fun K hK => ?_
   refine wp_store_bk 81 _ _ rfl _ _ _ [.int .u8 op, .int .i64 node, .int .u8 mode, .int .i64 tab, .bool row, .int .i64 col, .int .i64 var, .int .i64 dst, .bool eq, .int .i64 fro, .int .i64 upto, .slice ka key.length kc, .slice va vals.length vc] _ rfl rfl rfl iI hiI hsI (hbY.fr hf8 hneI) rfl (by simp [Value.oneCell']) ?_
   intro w9 hb9 hf9
   refine hK.out _ _ ?_
   clear hK K
   have hR9 : Fr w2 w9 Nil := KeptF.fr (KeptF.store hS8 hf9 hnI)
   have hR8 := hb8.fr hf9 (Ne.symm hneI)
   clear hS8 hf8 hf9 hb8
   have HR8 := Lib.hid hR8
   have HB9 := Lib.hid hb9
   have HR9 := Lib.hid hR9
   clear hR8 hb9 hR9
   go_wp2_with fail
   go_meet
   case rel => exact ⟨_, _, rfl, rfl, HR8.out, HB9.out, hnW, hnI, HR9.out⟩
 case rest =>
  obtain ⟨bw, bn, rfl, rfl, hbw, hbn, hsw, hsn, hfx⟩ := hcut
  clear HNX k0 k2 j0 j1 j2 j3 j4 j5 j6 j7 j8 j9 j10 j11 j12
  obtain ⟨l2, hl2⟩ : ∃ l2, l2 = l ++ [bkT b8 50 wantZ.toList, pairT bw bn 50 81 [.int .u8 wk, .int .i64 wt, .bool wr, .int .i64 wy, .int .u8 wm, .bool wto, .bool wwr] [.int .u8 op, .int .i64 node, .int .u8 mode, .int .i64 tab, .bool row, .int .i64 col, .int .i64 var, .int .i64 dst, .bool eq, .int .i64 fro, .int .i64 upto, .slice ka key.length kc, .slice va vals.length vc]] := ⟨_, rfl⟩
  have HL2E := Lib.hid hl2
  have il : i < l2.length := by rw [hl2, List.length_append]; omega
  have jl : j < l2.length := by rw [hl2, List.length_append]; omega
  have kl : k < l2.length := by rw [hl2, List.length_append]; omega
  have HGB : Hid (l2[l.length]? = some (bkT b8 50 wantZ.toList)) := Lib.hid (by rw [hl2]; simp)
  have HGP : Hid (l2[l.length + 1]? = some (pairT bw bn 50 81 [.int .u8 wk, .int .i64 wt, .bool wr, .int .i64 wy, .int .u8 wm, .bool wto, .bool wwr] [.int .u8 op, .int .i64 node, .int .u8 mode, .int .i64 tab, .bool row, .int .i64 col, .int .i64 var, .int .i64 dst, .bool eq, .int .i64 fro, .int .i64 upto, .slice ka key.length kc, .slice va vals.length vc])) := Lib.hid (by rw [hl2, List.getElem?_append_right (by omega), Nat.add_sub_cancel_left]; rfl)
  have HLx : Hid (Lies w0 wc (L3 l2 i j k (stT q) (rowsT rb M) (logT ub most lg))) := by
   have e1 : l2[i]? = some (stT q) := by rw [hl2, List.getElem?_append_left hil]; exact HI.out
   have e2 : l2[j]? = some (rowsT rb M) := by rw [hl2, List.getElem?_append_left hjl]; exact HJ.out
   have e3 : l2[k]? = some (logT ub most lg) := by rw [hl2, List.getElem?_append_left hkl]; exact HK.out
   rw [L3.self e1 e2 e3, hl2]
   have h9 := HL2.out.add (pairT bw bn 50 81 [.int .u8 wk, .int .i64 wt, .bool wr, .int .i64 wy, .int .u8 wm, .bool wto, .bool wwr] [.int .u8 op, .int .i64 node, .int .u8 mode, .int .i64 tab, .bool row, .int .i64 col, .int .i64 var, .int .i64 dst, .bool eq, .int .i64 fro, .int .i64 upto, .slice ka key.length kc, .slice va vals.length vc]) (W' := wc) (S := fun k => k = bw ∨ k = bn) ⟨⟨hbw, hbn⟩, fun _ => Iff.rfl⟩ (fun k hk => hk.elim (fun e => by rw [e]; exact hsw) fun e => by rw [e]; exact hsn) hfx
   rw [List.append_assoc] at h9
   exact Lib.hid h9
  have HKTx := Lib.hid (HKT.out.fr0 hfx)
  have HVTx := Lib.hid (HVT.out.fr0 hfx)
  have HP11x := Lib.hid (hfx.cell HP11.out fun h => h)
  have HP12x := Lib.hid (hfx.cell HP12.out fun h => h)
  clear hbw hbn hsw hsn hfx hl2 HKT HVT HP11 HP12 HL1 HL2 HTB
  have HPW : Hid (∀ (w : World) (x y z : Thing), Lies w0 w (L3 l2 i j k x y z) → Bk w bw 50 [.int .u8 wk, .int .i64 wt, .bool wr, .int .i64 wy, .int .u8 wm, .bool wto, .bool wwr] ∧ Bk w bn 81 [.int .u8 op, .int .i64 node, .int .u8 mode, .int .i64 tab, .bool row, .int .i64 col, .int .i64 var, .int .i64 dst, .bool eq, .int .i64 fro, .int .i64 upto, .slice ka key.length kc, .slice va vals.length vc]) := Lib.hid (fun w x y z h => h.pair (l.length + 1) (by rw [L3.get (by omega) (by omega) (by omega)]; exact HGP.out))
  have HPB : Hid (∀ (w : World) (x y z : Thing), Lies w0 w (L3 l2 i j k x y z) → Bk w b8 50 wantZ.toList) := Lib.hid (fun w x y z h => h.bk l.length (by rw [L3.get (by omega) (by omega) (by omega)]; exact HGB.out))
  have x0 := (HPW.out _ _ _ _ HLx.out).1.cell 0
  have x1 := (HPW.out _ _ _ _ HLx.out).1.cell 1
  have x2 := (HPW.out _ _ _ _ HLx.out).1.cell 2
  have x3 := (HPW.out _ _ _ _ HLx.out).1.cell 3
  have x4 := (HPW.out _ _ _ _ HLx.out).1.cell 4
  have x5 := (HPW.out _ _ _ _ HLx.out).1.cell 5
  have x6 := (HPW.out _ _ _ _ HLx.out).1.cell 6
  simp only [List.getElem?_cons_zero, List.getElem?_cons_succ] at x0 x1 x2 x3 x4 x5 x6
  have y0 := (HPW.out _ _ _ _ HLx.out).2.cell 0
  have y3 := (HPW.out _ _ _ _ HLx.out).2.cell 3
  simp only [List.getElem?_cons_zero, List.getElem?_cons_succ] at y0 y3
  by_cases hk1 : wk = 1
  ·subst hk1
   go_upto_if 55 with (fail)
   go_cut [12] from 56 to 68 (fun v12 wx => ∃ lg2, lg2.length ≤ lg.length + 1 ∧ r = (⟨1, wt, wr, wy, wm, wto, wwr⟩, 0, wentP ⟨op, node, mode, tab, row, col, var, dst, eq, fro, upto, key, vals⟩ ⟨q.at', q.vars, q.out, M, lg⟩ lg2) ∧ Lies w0 wx (L3 l2 i j k (stT q) (rowsT rb M) (logT ub most lg2)) ∧ TermsAt wx (.slice ka key.length kc) key ∧ ValsAt wx (.slice va vals.length vc) vals)
   case first =>
    cases hwwr : wwr
    ·subst hwwr
     go_wp2_with fail
     go_meet
     exact ⟨lg, by omega, by rw [HR.out]; exact stepM_went HGN.out HX.out rfl rfl, HLx.out, HKTx.out, HVTx.out⟩
    ·subst hwwr
     go_wp2_with fail
     refine (st_noteK HLx.out k j (L3.getk kl) (L3.getj hjk jl) i (L3.geti hij hik il) (Ne.symm hik) who tab wy HG.out hw hll).mono ?_
     rintro e w4 ⟨he, hl4, C, T, hc1, hc2, hc3⟩
     have hkeep := hc1.keepI hc2 hc3 HLV.out HN.out HP11x.out HP12x.out
     rw [L3.setk] at hl4
     have HK4 := Lib.hid hkeep
     have HL4 := Lib.hid hl4
     clear hc1 hc2 hc3 hkeep hl4 x0 x1 x2 x3 x4 x5 x6 y0 y3
     by_cases h0 : noteE M most lg tab = 0
     ·have HR4 : Hid (r = (⟨1, wt, wr, wy, wm, wto, true⟩, 0, wentP ⟨op, node, mode, tab, row, col, var, dst, eq, fro, upto, key, vals⟩ ⟨q.at', q.vars, q.out, M, lg⟩ (noteL M most lg who tab wy))) := Lib.hid (by rw [HR.out]; exact stepM_note HGN.out HX.out rfl rfl h0)
      rw [h0] at he
      subst he
      have HLN := Lib.hid (noteL_len M most lg who tab wy)
      clear h0
      go_wp2_with fail
      go_meet
      exact ⟨_, HLN.out, HR4.out, HL4.out, HK4.out.1, HK4.out.2⟩
     ·have HR4 : Hid (r = (WantD.zero, noteE M most lg tab, ⟨q.at', q.vars, q.out, M, lg⟩)) := Lib.hid (by rw [HR.out]; exact stepM_full (s := ⟨q.at', q.vars, q.out, M, lg⟩) HGN.out HX.out rfl rfl h0)
      have HLE : Hid (noteL M most lg who tab wy = lg) := Lib.hid (by unfold noteL; rw [if_neg h0])
      rw [HLE.out] at HL4
      generalize noteE M most lg tab = ne at he h0 HR4
      have d0 : (ne != 0) = true := by rw [bne_iff_ne]; exact h0
      subst he
      have z0 : w4.cell? ⟨b8, 0, none⟩ = some (.int .u8 0) := (HPB.out _ _ _ _ HL4.out).cell 0
      have z1 : w4.cell? ⟨b8, 1, none⟩ = some (.int .i64 0) := (HPB.out _ _ _ _ HL4.out).cell 1
      have z2 : w4.cell? ⟨b8, 2, none⟩ = some (.bool false) := (HPB.out _ _ _ _ HL4.out).cell 2
      have z3 : w4.cell? ⟨b8, 3, none⟩ = some (.int .i64 0) := (HPB.out _ _ _ _ HL4.out).cell 3
      have z4 : w4.cell? ⟨b8, 4, none⟩ = some (.int .u8 0) := (HPB.out _ _ _ _ HL4.out).cell 4
      have z5 : w4.cell? ⟨b8, 5, none⟩ = some (.bool false) := (HPB.out _ _ _ _ HL4.out).cell 5
      have z6 : w4.cell? ⟨b8, 6, none⟩ = some (.bool false) := (HPB.out _ _ _ _ HL4.out).cell 6
      have s8 := (HPB.out _ _ _ _ HL4.out).free
      clear h0
      go_wp2_with fail
      refine set7_world (HPB.out _ _ _ _ HL4.out) ?_
      intro w9 hb9 hf9
      have HLF := Lib.hid (step_fin (by rw [← HL2E.out]; exact HL4.out) hil hjl hkl (by rw [← HL2E.out]; exact HGB.out) hb9 hf9)
      have t0 := hb9.cell 0
      have t1 := hb9.cell 1
      have t2 := hb9.cell 2
      have t3 := hb9.cell 3
      have t4 := hb9.cell 4
      have t5 := hb9.cell 5
      have t6 := hb9.cell 6
      simp only [List.getElem?_cons_zero, List.getElem?_cons_succ] at t0 t1 t2 t3 t4 t5 t6
      clear hb9 hf9 s8 z0 z1 z2 z3 z4 z5 z6
      go_wp2_with fail
      exact bodyPost_ret (v := .tuple #[WantD.zero.val, .int .i64 ne]) (by simp [results, Tryz.results21, go_sem, t0, t1, t2, t3, t4, t5, t6, WantD.zero]; try rfl) rfl ⟨by rw [HR4.out], q.ov, by rw [HR4.out]; exact HLF.out⟩
   case rest =>
    obtain ⟨lg2, hlg2, hr2, hl5, hk5, hv5⟩ := hcut
    have HR5 := Lib.hid hr2
    have HL5 := Lib.hid hl5
    have HK5 := Lib.hid hk5
    have HV5 := Lib.hid hv5
    clear hr2 hl5 hk5 hv5 x0 x1 x2 x3 x4 x5 x6 y0 y3
    have HOK : Hid (IOk q.TB nv q.L.length ⟨op, node, mode, tab, row, col, var, dst, eq, fro, upto, key, vals⟩) := Lib.hid (HF.out.ok.all _ _ HN.out)
    have ho1 : 3 ≤ op ∧ op ≤ 13 := (nextP_kind q.vars HOK.out.lo HOK.out.hi).1 (by rw [← HX.out])
    have HDA : Hid (∀ (w : World), Fr wc w Nil → DoArg w0 w l2 i j k q rb M (logT ub most lg2) ⟨op, node, mode, tab, row, col, var, dst, eq, fro, upto, key, vals⟩ (.slice ka key.length kc) (.slice va vals.length vc)) := Lib.hid (fun w hf => ⟨HL5.out.fr0 hf, hij, hik, hjk, il, jl, HK5.out.fr0 hf, HV5.out.fr0 hf, (HF.out.few.2 _ (List.mem_of_getElem? HN.out)).2, by rw [HF.out.len]; exact HF.out.le, hol, HG.out, HC.out, by rw [HF.out.len]; exact HOK.out⟩)
    have hop := HOK.out.lo
    clear hop
    have HY := Lib.hid (fun o => ((HPW.out _ _ _ _ HL5.out).2.alloc o))
    have HXW := Lib.hid (fun o => ((HPW.out _ _ _ _ HL5.out).1.alloc o))
    rcases (show op = 12 ∨ op = 13 by omega) with rfl | rfl
    ·have y0 := fun o => (HY.out o).cell 0
     have y1 := fun o => (HY.out o).cell 1
     have y2 := fun o => (HY.out o).cell 2
     have y3 := fun o => (HY.out o).cell 3
     have y4 := fun o => (HY.out o).cell 4
     have y5 := fun o => (HY.out o).cell 5
     have y6 := fun o => (HY.out o).cell 6
     have y7 := fun o => (HY.out o).cell 7
     have y8 := fun o => (HY.out o).cell 8
     have y9 := fun o => (HY.out o).cell 9
     have y10 := fun o => (HY.out o).cell 10
     have y11 := fun o => (HY.out o).cell 11
     have y12 := fun o => (HY.out o).cell 12
     have x3 := fun o => (HXW.out o).cell 3
     simp only [List.getElem?_cons_zero, List.getElem?_cons_succ] at x3 y0 y1 y2 y3 y4 y5 y6 y7 y8 y9 y10 y11 y12
     clear ho1
     go_upto_region 16 with (fail)
     obtain ⟨w6, hw6⟩ : ∃ w6, w6 = wc.alloc (.cells #[.nilFunc, .nilFunc, .nilFunc, .func (.func 50) #[] #[], .func (.func 51) #[] #[], .func (.func 52) #[] #[], .func (.func 53) #[] #[], .func (.func 54) #[] #[], .func (.func 55) #[] #[], .func (.func 56) #[] #[], .nilFunc, .nilFunc, .nilFunc, .nilFunc, .nilFunc, .nilFunc, .nilFunc] 111) := ⟨_, rfl⟩
     have hf6 : Fr wc w6 Nil := by rw [hw6]; exact (Fr.refl wc Nil).alloc _
     rw [← hw6]
     have HKV := Lib.hid (show 10 ≤ (⟨12, node, mode, tab, row, col, var, dst, eq, fro, upto, key, vals⟩ : InstrD).op → TermsAt w6 (.slice ka key.length kc) key ∧ ValsAt w6 (.slice va vals.length vc) vals from fun _ => ⟨HK5.out.fr0 hf6, HV5.out.fr0 hf6⟩)
     obtain ⟨-, ov, h6⟩ := do_none (n := ⟨12, node, mode, tab, row, col, var, dst, eq, fro, upto, key, vals⟩) (HL5.out.fr0 hf6) (.inr (show (9 : Int) < 12 by decide))
     clear hw6 hf6
     have HL6 : Hid (Lies w0 w6 (L3 l2 i j k (stT { q with vars := doV ⟨12, node, mode, tab, row, col, var, dst, eq, fro, upto, key, vals⟩ q.vars M, out := doO ⟨12, node, mode, tab, row, col, var, dst, eq, fro, upto, key, vals⟩ q.vars q.out, ov := ov }) (rowsT rb (doM ⟨12, node, mode, tab, row, col, var, dst, eq, fro, upto, key, vals⟩ q.vars M)) (logT ub most lg2))) := Lib.hid h6
     clear h6 x3 y0 y1 y2 y3 y4 y5 y6 y7 y8 y9 y10 y11 y12
     obtain ⟨vs, hvs⟩ : ∃ vs, vs = doV ⟨12, node, mode, tab, row, col, var, dst, eq, fro, upto, key, vals⟩ q.vars M := ⟨_, rfl⟩
     obtain ⟨os, hos⟩ : ∃ os, os = doO ⟨12, node, mode, tab, row, col, var, dst, eq, fro, upto, key, vals⟩ q.vars q.out := ⟨_, rfl⟩
     obtain ⟨M6, hM6⟩ : ∃ M6, M6 = doM ⟨12, node, mode, tab, row, col, var, dst, eq, fro, upto, key, vals⟩ q.vars M := ⟨_, rfl⟩
     have HVS := Lib.hid hvs
     have HOS := Lib.hid hos
     have HM6 := Lib.hid hM6
     rw [← hvs, ← hos, ← hM6] at HL6
     have HVL : Hid (vs.length = q.vars.length) := Lib.hid (by rw [hvs]; exact doV_len _ _)
     clear hvs hos hM6
     have y0 := (HPW.out _ _ _ _ HL6.out).2.cell 0
     have y1 := (HPW.out _ _ _ _ HL6.out).2.cell 1
     have y2 := (HPW.out _ _ _ _ HL6.out).2.cell 2
     have y3 := (HPW.out _ _ _ _ HL6.out).2.cell 3
     have y4 := (HPW.out _ _ _ _ HL6.out).2.cell 4
     have y5 := (HPW.out _ _ _ _ HL6.out).2.cell 5
     have y6 := (HPW.out _ _ _ _ HL6.out).2.cell 6
     have y7 := (HPW.out _ _ _ _ HL6.out).2.cell 7
     have y8 := (HPW.out _ _ _ _ HL6.out).2.cell 8
     have y9 := (HPW.out _ _ _ _ HL6.out).2.cell 9
     have y10 := (HPW.out _ _ _ _ HL6.out).2.cell 10
     have y11 := (HPW.out _ _ _ _ HL6.out).2.cell 11
     have y12 := (HPW.out _ _ _ _ HL6.out).2.cell 12
     simp only [List.getElem?_cons_zero, List.getElem?_cons_succ] at y0 y1 y2 y3 y4 y5 y6 y7 y8 y9 y10 y11 y12
     go_wp2_with fail
     refine (on_any' HL6.out i (L3.geti hij hik il) ⟨12, node, mode, tab, row, col, var, dst, eq, fro, upto, key, vals⟩ (.slice ka key.length kc) (.slice va vals.length vc) ⟨_, _, rfl⟩ ⟨_, _, rfl⟩ HKV.out (HF.out.few.2 _ (List.mem_of_getElem? HN.out)).2 (by show vs.length ≤ _; rw [HVL.out, HF.out.len]; exact HF.out.le) (by show IOk _ vs.length _ _; rw [HVL.out, HF.out.len]; exact HOK.out)).mono ?_
     rintro e w7 ⟨t, he, ht, h7⟩
     rw [L3.seti hij hik] at h7
     simp only at he ht h7
     obtain ⟨v7, hv7⟩ : ∃ v7, v7 = (onP ⟨12, node, mode, tab, row, col, var, dst, eq, fro, upto, key, vals⟩ vs).1 := ⟨_, rfl⟩
     obtain ⟨o7, ho7⟩ : ∃ o7, o7 = (onP ⟨12, node, mode, tab, row, col, var, dst, eq, fro, upto, key, vals⟩ vs).2 := ⟨_, rfl⟩
     rw [← ho7] at he ht
     rw [← hv7] at h7
     have HON : Hid (onP ⟨12, node, mode, tab, row, col, var, dst, eq, fro, upto, key, vals⟩ vs = (v7, o7)) := Lib.hid (by rw [hv7, ho7])
     clear hv7 ho7
     cases o7 with
     | none =>
      simp only [Option.isSome_none] at he
      subst he
      have HL7 := Lib.hid h7
      have b2 := (HL7.out.stR i (L3.geti hij hik il)).box.cell 2
      have bf := (HL7.out.stR i (L3.geti hij hik il)).box.free 2
      simp only [StV.cs, List.getElem?_cons_zero, List.getElem?_cons_succ] at b2
      clear h7 ht y0 y1 y2 y3 y4 y5 y6 y7 y8 y9 y10 y11 y12
      go_upto_region 20 with (fail)
      have h8 := HL7.out.stAt i (L3.geti hij hik il) (q.at' + 1) ((q.at' : Int) + 1) (by omega)
      rw [L3.seti hij hik] at h8
      obtain ⟨w8, hw8⟩ : ∃ w8, w8 = w7.setCell ⟨q.sb, 2, none⟩ (.int .i64 ((q.at' : Int) + 1)) := ⟨_, rfl⟩
      rw [← hw8] at h8 ⊢
      have HL8 := Lib.hid h8
      clear h8 hw8 b2 bf
      have hr8 : r = (⟨1, wt, wr, wy, wm, wto, wwr⟩, 0, ⟨q.at' + 1, v7, os, M6, lg2⟩) := by rw [HR5.out]; unfold wentP; simp only; rw [← HVS.out, ← HOS.out, ← HM6.out, HON.out]
      have HR8 := Lib.hid hr8
      clear hr8
      have x0 := (HPW.out _ _ _ _ HL8.out).1.cell 0
      have x1 := (HPW.out _ _ _ _ HL8.out).1.cell 1
      have x2 := (HPW.out _ _ _ _ HL8.out).1.cell 2
      have x3 := (HPW.out _ _ _ _ HL8.out).1.cell 3
      have x4 := (HPW.out _ _ _ _ HL8.out).1.cell 4
      have x5 := (HPW.out _ _ _ _ HL8.out).1.cell 5
      have x6 := (HPW.out _ _ _ _ HL8.out).1.cell 6
      simp only [List.getElem?_cons_zero, List.getElem?_cons_succ] at x0 x1 x2 x3 x4 x5 x6
      have z0 : w8.cell? ⟨b8, 0, none⟩ = some (.int .u8 0) := (HPB.out _ _ _ _ HL8.out).cell 0
      have z1 : w8.cell? ⟨b8, 1, none⟩ = some (.int .i64 0) := (HPB.out _ _ _ _ HL8.out).cell 1
      have z2 : w8.cell? ⟨b8, 2, none⟩ = some (.bool false) := (HPB.out _ _ _ _ HL8.out).cell 2
      have z3 : w8.cell? ⟨b8, 3, none⟩ = some (.int .i64 0) := (HPB.out _ _ _ _ HL8.out).cell 3
      have z4 : w8.cell? ⟨b8, 4, none⟩ = some (.int .u8 0) := (HPB.out _ _ _ _ HL8.out).cell 4
      have z5 : w8.cell? ⟨b8, 5, none⟩ = some (.bool false) := (HPB.out _ _ _ _ HL8.out).cell 5
      have z6 : w8.cell? ⟨b8, 6, none⟩ = some (.bool false) := (HPB.out _ _ _ _ HL8.out).cell 6
      have s8 := (HPB.out _ _ _ _ HL8.out).free
      go_wp2_with fail
      refine set7_world (HPB.out _ _ _ _ HL8.out) ?_
      intro w9 hb9 hf9
      have HLF := Lib.hid (step_fin (by rw [← HL2E.out]; exact HL8.out) hil hjl hkl (by rw [← HL2E.out]; exact HGB.out) hb9 hf9)
      have t0 := hb9.cell 0
      have t1 := hb9.cell 1
      have t2 := hb9.cell 2
      have t3 := hb9.cell 3
      have t4 := hb9.cell 4
      have t5 := hb9.cell 5
      have t6 := hb9.cell 6
      simp only [List.getElem?_cons_zero, List.getElem?_cons_succ] at t0 t1 t2 t3 t4 t5 t6
      clear hb9 hf9 x0 x1 x2 x3 x4 x5 x6 s8 z0 z1 z2 z3 z4 z5 z6
      go_wp2_with fail
      exact bodyPost_ret (v := .tuple #[(⟨1, wt, wr, wy, wm, wto, wwr⟩ : WantD).val, .int .i64 0]) (by simp [results, Tryz.results21, go_sem, t0, t1, t2, t3, t4, t5, t6]; try rfl) rfl ⟨by rw [HR8.out], ov, by rw [HR8.out]; exact HLF.out⟩
     | some x7 =>
      simp only [Option.isSome_some] at he
      subst he
      obtain rfl : t = x7 := ht x7 rfl
      have HD := onP_dst (n := ⟨12, node, mode, tab, row, col, var, dst, eq, fro, upto, key, vals⟩) (vars := vs) (t := t) (by rw [HON.out])
      have hd0 := (HOK.out.dst ⟨HD.2.1, HD.2.2⟩).1
      rw [← HD.1] at hd0
      have HL7 := Lib.hid h7
      have b2 := (HL7.out.stR i (L3.geti hij hik il)).box.cell 2
      have bf := (HL7.out.stR i (L3.geti hij hik il)).box.free 2
      simp only [StV.cs, List.getElem?_cons_zero, List.getElem?_cons_succ] at b2
      clear HD
      clear h7 ht y0 y1 y2 y3 y4 y5 y6 y7 y8 y9 y10 y11 y12
      go_upto_region 20 with (fail)
      have h8 := HL7.out.stAt i (L3.geti hij hik il) t.toNat t (by omega)
      rw [L3.seti hij hik] at h8
      obtain ⟨w8, hw8⟩ : ∃ w8, w8 = w7.setCell ⟨q.sb, 2, none⟩ (.int .i64 t) := ⟨_, rfl⟩
      rw [← hw8] at h8 ⊢
      have HL8 := Lib.hid h8
      clear h8 hw8 b2 bf
      have hr8 : r = (⟨1, wt, wr, wy, wm, wto, wwr⟩, 0, ⟨t.toNat, v7, os, M6, lg2⟩) := by rw [HR5.out]; unfold wentP; simp only; rw [← HVS.out, ← HOS.out, ← HM6.out, HON.out]
      have HR8 := Lib.hid hr8
      clear hr8
      have x0 := (HPW.out _ _ _ _ HL8.out).1.cell 0
      have x1 := (HPW.out _ _ _ _ HL8.out).1.cell 1
      have x2 := (HPW.out _ _ _ _ HL8.out).1.cell 2
      have x3 := (HPW.out _ _ _ _ HL8.out).1.cell 3
      have x4 := (HPW.out _ _ _ _ HL8.out).1.cell 4
      have x5 := (HPW.out _ _ _ _ HL8.out).1.cell 5
      have x6 := (HPW.out _ _ _ _ HL8.out).1.cell 6
      simp only [List.getElem?_cons_zero, List.getElem?_cons_succ] at x0 x1 x2 x3 x4 x5 x6
      have z0 : w8.cell? ⟨b8, 0, none⟩ = some (.int .u8 0) := (HPB.out _ _ _ _ HL8.out).cell 0
      have z1 : w8.cell? ⟨b8, 1, none⟩ = some (.int .i64 0) := (HPB.out _ _ _ _ HL8.out).cell 1
      have z2 : w8.cell? ⟨b8, 2, none⟩ = some (.bool false) := (HPB.out _ _ _ _ HL8.out).cell 2
      have z3 : w8.cell? ⟨b8, 3, none⟩ = some (.int .i64 0) := (HPB.out _ _ _ _ HL8.out).cell 3
      have z4 : w8.cell? ⟨b8, 4, none⟩ = some (.int .u8 0) := (HPB.out _ _ _ _ HL8.out).cell 4
      have z5 : w8.cell? ⟨b8, 5, none⟩ = some (.bool false) := (HPB.out _ _ _ _ HL8.out).cell 5
      have z6 : w8.cell? ⟨b8, 6, none⟩ = some (.bool false) := (HPB.out _ _ _ _ HL8.out).cell 6
      have s8 := (HPB.out _ _ _ _ HL8.out).free
      go_wp2_with fail
      refine set7_world (HPB.out _ _ _ _ HL8.out) ?_
      intro w9 hb9 hf9
      have HLF := Lib.hid (step_fin (by rw [← HL2E.out]; exact HL8.out) hil hjl hkl (by rw [← HL2E.out]; exact HGB.out) hb9 hf9)
      have t0 := hb9.cell 0
      have t1 := hb9.cell 1
      have t2 := hb9.cell 2
      have t3 := hb9.cell 3
      have t4 := hb9.cell 4
      have t5 := hb9.cell 5
      have t6 := hb9.cell 6
      simp only [List.getElem?_cons_zero, List.getElem?_cons_succ] at t0 t1 t2 t3 t4 t5 t6
      clear hb9 hf9 x0 x1 x2 x3 x4 x5 x6 s8 z0 z1 z2 z3 z4 z5 z6
      go_wp2_with fail
      exact bodyPost_ret (v := .tuple #[(⟨1, wt, wr, wy, wm, wto, wwr⟩ : WantD).val, .int .i64 0]) (by simp [results, Tryz.results21, go_sem, t0, t1, t2, t3, t4, t5, t6]; try rfl) rfl ⟨by rw [HR8.out], ov, by rw [HR8.out]; exact HLF.out⟩
    ·have y0 := fun o => (HY.out o).cell 0
     have y1 := fun o => (HY.out o).cell 1
     have y2 := fun o => (HY.out o).cell 2
     have y3 := fun o => (HY.out o).cell 3
     have y4 := fun o => (HY.out o).cell 4
     have y5 := fun o => (HY.out o).cell 5
     have y6 := fun o => (HY.out o).cell 6
     have y7 := fun o => (HY.out o).cell 7
     have y8 := fun o => (HY.out o).cell 8
     have y9 := fun o => (HY.out o).cell 9
     have y10 := fun o => (HY.out o).cell 10
     have y11 := fun o => (HY.out o).cell 11
     have y12 := fun o => (HY.out o).cell 12
     have x3 := fun o => (HXW.out o).cell 3
     simp only [List.getElem?_cons_zero, List.getElem?_cons_succ] at x3 y0 y1 y2 y3 y4 y5 y6 y7 y8 y9 y10 y11 y12
     clear ho1
     go_upto_region 16 with (fail)
     obtain ⟨w6, hw6⟩ : ∃ w6, w6 = wc.alloc (.cells #[.nilFunc, .nilFunc, .nilFunc, .func (.func 50) #[] #[], .func (.func 51) #[] #[], .func (.func 52) #[] #[], .func (.func 53) #[] #[], .func (.func 54) #[] #[], .func (.func 55) #[] #[], .func (.func 56) #[] #[], .nilFunc, .nilFunc, .nilFunc, .nilFunc, .nilFunc, .nilFunc, .nilFunc] 111) := ⟨_, rfl⟩
     have hf6 : Fr wc w6 Nil := by rw [hw6]; exact (Fr.refl wc Nil).alloc _
     rw [← hw6]
     have HKV := Lib.hid (show 10 ≤ (⟨13, node, mode, tab, row, col, var, dst, eq, fro, upto, key, vals⟩ : InstrD).op → TermsAt w6 (.slice ka key.length kc) key ∧ ValsAt w6 (.slice va vals.length vc) vals from fun _ => ⟨HK5.out.fr0 hf6, HV5.out.fr0 hf6⟩)
     obtain ⟨-, ov, h6⟩ := do_none (n := ⟨13, node, mode, tab, row, col, var, dst, eq, fro, upto, key, vals⟩) (HL5.out.fr0 hf6) (.inr (show (9 : Int) < 13 by decide))
     clear hw6 hf6
     have HL6 : Hid (Lies w0 w6 (L3 l2 i j k (stT { q with vars := doV ⟨13, node, mode, tab, row, col, var, dst, eq, fro, upto, key, vals⟩ q.vars M, out := doO ⟨13, node, mode, tab, row, col, var, dst, eq, fro, upto, key, vals⟩ q.vars q.out, ov := ov }) (rowsT rb (doM ⟨13, node, mode, tab, row, col, var, dst, eq, fro, upto, key, vals⟩ q.vars M)) (logT ub most lg2))) := Lib.hid h6
     clear h6 x3 y0 y1 y2 y3 y4 y5 y6 y7 y8 y9 y10 y11 y12
     obtain ⟨vs, hvs⟩ : ∃ vs, vs = doV ⟨13, node, mode, tab, row, col, var, dst, eq, fro, upto, key, vals⟩ q.vars M := ⟨_, rfl⟩
     obtain ⟨os, hos⟩ : ∃ os, os = doO ⟨13, node, mode, tab, row, col, var, dst, eq, fro, upto, key, vals⟩ q.vars q.out := ⟨_, rfl⟩
     obtain ⟨M6, hM6⟩ : ∃ M6, M6 = doM ⟨13, node, mode, tab, row, col, var, dst, eq, fro, upto, key, vals⟩ q.vars M := ⟨_, rfl⟩
     have HVS := Lib.hid hvs
     have HOS := Lib.hid hos
     have HM6 := Lib.hid hM6
     rw [← hvs, ← hos, ← hM6] at HL6
     have HVL : Hid (vs.length = q.vars.length) := Lib.hid (by rw [hvs]; exact doV_len _ _)
     clear hvs hos hM6
     have y0 := (HPW.out _ _ _ _ HL6.out).2.cell 0
     have y1 := (HPW.out _ _ _ _ HL6.out).2.cell 1
     have y2 := (HPW.out _ _ _ _ HL6.out).2.cell 2
     have y3 := (HPW.out _ _ _ _ HL6.out).2.cell 3
     have y4 := (HPW.out _ _ _ _ HL6.out).2.cell 4
     have y5 := (HPW.out _ _ _ _ HL6.out).2.cell 5
     have y6 := (HPW.out _ _ _ _ HL6.out).2.cell 6
     have y7 := (HPW.out _ _ _ _ HL6.out).2.cell 7
     have y8 := (HPW.out _ _ _ _ HL6.out).2.cell 8
     have y9 := (HPW.out _ _ _ _ HL6.out).2.cell 9
     have y10 := (HPW.out _ _ _ _ HL6.out).2.cell 10
     have y11 := (HPW.out _ _ _ _ HL6.out).2.cell 11
     have y12 := (HPW.out _ _ _ _ HL6.out).2.cell 12
     simp only [List.getElem?_cons_zero, List.getElem?_cons_succ] at y0 y1 y2 y3 y4 y5 y6 y7 y8 y9 y10 y11 y12
     go_wp2_with fail
     refine (on_any' HL6.out i (L3.geti hij hik il) ⟨13, node, mode, tab, row, col, var, dst, eq, fro, upto, key, vals⟩ (.slice ka key.length kc) (.slice va vals.length vc) ⟨_, _, rfl⟩ ⟨_, _, rfl⟩ HKV.out (HF.out.few.2 _ (List.mem_of_getElem? HN.out)).2 (by show vs.length ≤ _; rw [HVL.out, HF.out.len]; exact HF.out.le) (by show IOk _ vs.length _ _; rw [HVL.out, HF.out.len]; exact HOK.out)).mono ?_
     rintro e w7 ⟨t, he, ht, h7⟩
     rw [L3.seti hij hik] at h7
     simp only at he ht h7
     obtain ⟨v7, hv7⟩ : ∃ v7, v7 = (onP ⟨13, node, mode, tab, row, col, var, dst, eq, fro, upto, key, vals⟩ vs).1 := ⟨_, rfl⟩
     obtain ⟨o7, ho7⟩ : ∃ o7, o7 = (onP ⟨13, node, mode, tab, row, col, var, dst, eq, fro, upto, key, vals⟩ vs).2 := ⟨_, rfl⟩
     rw [← ho7] at he ht
     rw [← hv7] at h7
     have HON : Hid (onP ⟨13, node, mode, tab, row, col, var, dst, eq, fro, upto, key, vals⟩ vs = (v7, o7)) := Lib.hid (by rw [hv7, ho7])
     clear hv7 ho7
     cases o7 with
     | none =>
      simp only [Option.isSome_none] at he
      subst he
      have HL7 := Lib.hid h7
      have b2 := (HL7.out.stR i (L3.geti hij hik il)).box.cell 2
      have bf := (HL7.out.stR i (L3.geti hij hik il)).box.free 2
      simp only [StV.cs, List.getElem?_cons_zero, List.getElem?_cons_succ] at b2
      clear h7 ht y0 y1 y2 y3 y4 y5 y6 y7 y8 y9 y10 y11 y12
      go_upto_region 20 with (fail)
      have h8 := HL7.out.stAt i (L3.geti hij hik il) (q.at' + 1) ((q.at' : Int) + 1) (by omega)
      rw [L3.seti hij hik] at h8
      obtain ⟨w8, hw8⟩ : ∃ w8, w8 = w7.setCell ⟨q.sb, 2, none⟩ (.int .i64 ((q.at' : Int) + 1)) := ⟨_, rfl⟩
      rw [← hw8] at h8 ⊢
      have HL8 := Lib.hid h8
      clear h8 hw8 b2 bf
      have hr8 : r = (⟨1, wt, wr, wy, wm, wto, wwr⟩, 0, ⟨q.at' + 1, v7, os, M6, lg2⟩) := by rw [HR5.out]; unfold wentP; simp only; rw [← HVS.out, ← HOS.out, ← HM6.out, HON.out]
      have HR8 := Lib.hid hr8
      clear hr8
      have x0 := (HPW.out _ _ _ _ HL8.out).1.cell 0
      have x1 := (HPW.out _ _ _ _ HL8.out).1.cell 1
      have x2 := (HPW.out _ _ _ _ HL8.out).1.cell 2
      have x3 := (HPW.out _ _ _ _ HL8.out).1.cell 3
      have x4 := (HPW.out _ _ _ _ HL8.out).1.cell 4
      have x5 := (HPW.out _ _ _ _ HL8.out).1.cell 5
      have x6 := (HPW.out _ _ _ _ HL8.out).1.cell 6
      simp only [List.getElem?_cons_zero, List.getElem?_cons_succ] at x0 x1 x2 x3 x4 x5 x6
      have z0 : w8.cell? ⟨b8, 0, none⟩ = some (.int .u8 0) := (HPB.out _ _ _ _ HL8.out).cell 0
      have z1 : w8.cell? ⟨b8, 1, none⟩ = some (.int .i64 0) := (HPB.out _ _ _ _ HL8.out).cell 1
      have z2 : w8.cell? ⟨b8, 2, none⟩ = some (.bool false) := (HPB.out _ _ _ _ HL8.out).cell 2
      have z3 : w8.cell? ⟨b8, 3, none⟩ = some (.int .i64 0) := (HPB.out _ _ _ _ HL8.out).cell 3
      have z4 : w8.cell? ⟨b8, 4, none⟩ = some (.int .u8 0) := (HPB.out _ _ _ _ HL8.out).cell 4
      have z5 : w8.cell? ⟨b8, 5, none⟩ = some (.bool false) := (HPB.out _ _ _ _ HL8.out).cell 5
      have z6 : w8.cell? ⟨b8, 6, none⟩ = some (.bool false) := (HPB.out _ _ _ _ HL8.out).cell 6
      have s8 := (HPB.out _ _ _ _ HL8.out).free
      go_wp2_with fail
      refine set7_world (HPB.out _ _ _ _ HL8.out) ?_
      intro w9 hb9 hf9
      have HLF := Lib.hid (step_fin (by rw [← HL2E.out]; exact HL8.out) hil hjl hkl (by rw [← HL2E.out]; exact HGB.out) hb9 hf9)
      have t0 := hb9.cell 0
      have t1 := hb9.cell 1
      have t2 := hb9.cell 2
      have t3 := hb9.cell 3
      have t4 := hb9.cell 4
      have t5 := hb9.cell 5
      have t6 := hb9.cell 6
      simp only [List.getElem?_cons_zero, List.getElem?_cons_succ] at t0 t1 t2 t3 t4 t5 t6
      clear hb9 hf9 x0 x1 x2 x3 x4 x5 x6 s8 z0 z1 z2 z3 z4 z5 z6
      go_wp2_with fail
      exact bodyPost_ret (v := .tuple #[(⟨1, wt, wr, wy, wm, wto, wwr⟩ : WantD).val, .int .i64 0]) (by simp [results, Tryz.results21, go_sem, t0, t1, t2, t3, t4, t5, t6]; try rfl) rfl ⟨by rw [HR8.out], ov, by rw [HR8.out]; exact HLF.out⟩
     | some x7 =>
      simp only [Option.isSome_some] at he
      subst he
      obtain rfl : t = x7 := ht x7 rfl
      have HD := onP_dst (n := ⟨13, node, mode, tab, row, col, var, dst, eq, fro, upto, key, vals⟩) (vars := vs) (t := t) (by rw [HON.out])
      have hd0 := (HOK.out.dst ⟨HD.2.1, HD.2.2⟩).1
      rw [← HD.1] at hd0
      have HL7 := Lib.hid h7
      have b2 := (HL7.out.stR i (L3.geti hij hik il)).box.cell 2
      have bf := (HL7.out.stR i (L3.geti hij hik il)).box.free 2
      simp only [StV.cs, List.getElem?_cons_zero, List.getElem?_cons_succ] at b2
      clear HD
      clear h7 ht y0 y1 y2 y3 y4 y5 y6 y7 y8 y9 y10 y11 y12
      go_upto_region 20 with (fail)
      have h8 := HL7.out.stAt i (L3.geti hij hik il) t.toNat t (by omega)
      rw [L3.seti hij hik] at h8
      obtain ⟨w8, hw8⟩ : ∃ w8, w8 = w7.setCell ⟨q.sb, 2, none⟩ (.int .i64 t) := ⟨_, rfl⟩
      rw [← hw8] at h8 ⊢
      have HL8 := Lib.hid h8
      clear h8 hw8 b2 bf
      have hr8 : r = (⟨1, wt, wr, wy, wm, wto, wwr⟩, 0, ⟨t.toNat, v7, os, M6, lg2⟩) := by rw [HR5.out]; unfold wentP; simp only; rw [← HVS.out, ← HOS.out, ← HM6.out, HON.out]
      have HR8 := Lib.hid hr8
      clear hr8
      have x0 := (HPW.out _ _ _ _ HL8.out).1.cell 0
      have x1 := (HPW.out _ _ _ _ HL8.out).1.cell 1
      have x2 := (HPW.out _ _ _ _ HL8.out).1.cell 2
      have x3 := (HPW.out _ _ _ _ HL8.out).1.cell 3
      have x4 := (HPW.out _ _ _ _ HL8.out).1.cell 4
      have x5 := (HPW.out _ _ _ _ HL8.out).1.cell 5
      have x6 := (HPW.out _ _ _ _ HL8.out).1.cell 6
      simp only [List.getElem?_cons_zero, List.getElem?_cons_succ] at x0 x1 x2 x3 x4 x5 x6
      have z0 : w8.cell? ⟨b8, 0, none⟩ = some (.int .u8 0) := (HPB.out _ _ _ _ HL8.out).cell 0
      have z1 : w8.cell? ⟨b8, 1, none⟩ = some (.int .i64 0) := (HPB.out _ _ _ _ HL8.out).cell 1
      have z2 : w8.cell? ⟨b8, 2, none⟩ = some (.bool false) := (HPB.out _ _ _ _ HL8.out).cell 2
      have z3 : w8.cell? ⟨b8, 3, none⟩ = some (.int .i64 0) := (HPB.out _ _ _ _ HL8.out).cell 3
      have z4 : w8.cell? ⟨b8, 4, none⟩ = some (.int .u8 0) := (HPB.out _ _ _ _ HL8.out).cell 4
      have z5 : w8.cell? ⟨b8, 5, none⟩ = some (.bool false) := (HPB.out _ _ _ _ HL8.out).cell 5
      have z6 : w8.cell? ⟨b8, 6, none⟩ = some (.bool false) := (HPB.out _ _ _ _ HL8.out).cell 6
      have s8 := (HPB.out _ _ _ _ HL8.out).free
      go_wp2_with fail
      refine set7_world (HPB.out _ _ _ _ HL8.out) ?_
      intro w9 hb9 hf9
      have HLF := Lib.hid (step_fin (by rw [← HL2E.out]; exact HL8.out) hil hjl hkl (by rw [← HL2E.out]; exact HGB.out) hb9 hf9)
      have t0 := hb9.cell 0
      have t1 := hb9.cell 1
      have t2 := hb9.cell 2
      have t3 := hb9.cell 3
      have t4 := hb9.cell 4
      have t5 := hb9.cell 5
      have t6 := hb9.cell 6
      simp only [List.getElem?_cons_zero, List.getElem?_cons_succ] at t0 t1 t2 t3 t4 t5 t6
      clear hb9 hf9 x0 x1 x2 x3 x4 x5 x6 s8 z0 z1 z2 z3 z4 z5 z6
      go_wp2_with fail
      exact bodyPost_ret (v := .tuple #[(⟨1, wt, wr, wy, wm, wto, wwr⟩ : WantD).val, .int .i64 0]) (by simp [results, Tryz.results21, go_sem, t0, t1, t2, t3, t4, t5, t6]; try rfl) rfl ⟨by rw [HR8.out], ov, by rw [HR8.out]; exact HLF.out⟩
  ·exact absurd ((nextP_kind q.vars (HF.out.ok.all _ _ HN.out).lo (HF.out.ok.all _ _ HN.out).hi).2 (show (3 : Int) ≤ op ∧ op ≤ 13 by omega)) (by rw [← HX.out]; exact hk1)
end
end Go.Proofs.YtgpekgnhbccnoaaGreat
namespace Go.Proofs.YtgpekgnhbccnoaaGreat
open Go Go.RowKit
attribute [local go_sem ↓] Go.wp_at_zero Go.wp_at_succ
attribute [local go_sem] Tryz.someFunc Tryz.noFunc

section
variable {w0 W : World} {l : List Thing} {q : StV} {M : List MTab} {rb ub : Nat} {most : Int} {lg : List (Int × Ent)}
set_option maxRecDepth 100000 in
set_option maxHeartbeats 16000000 in
theorem step_w (h : Lies w0 W l) (i j k : Nat) (hi : l[i]? = some (stT q)) (hj : l[j]? = some (rowsT rb M)) (hk : l[k]? = some (logT ub most lg)) (hij : i ≠ j) (hik : i ≠ k) (hjk : j ≠ k) (nv : Nat) (hf : StF q nv) (n : InstrD) (hn : q.L[q.at']? = some n) (hg : Good M) (hc : colsN M = q.TB) (who : Int) (hw : (Lit.int .i64 who).wf = true) (hll : lg.length ≤ 100000) (hol : q.out.length ≤ 100000) (hgr : n.op < 3 ∨ 13 < n.op) :
  Calls Tryz.prog 21 #[.pointer (some ⟨q.sb, 0, none⟩), .int .i64 who, rptr rb, lptr ub] W (StepRet w0 l i j k q rb ub most (stepM q.L most who ⟨q.at', q.vars, q.out, M, lg⟩)) := by
 have hall : (i ≠ j ∧ i ≠ k ∧ j ≠ k) ∧ (Lit.int .i64 who).wf = true ∧ lg.length ≤ 100000 ∧ q.out.length ≤ 100000 := ⟨⟨hij, hik, hjk⟩, hw, hll, hol⟩
 clear hall
 obtain ⟨iW, hiW, hsW⟩ := info_size Tryz.infoWant
 obtain ⟨iI, hiI, hsI⟩ := info_size Tryz.infoIns
 have hLl := hf.few.1
 have hat := hf.at'
 have hil := (List.getElem?_eq_some_iff.1 hi).1
 have hjl := (List.getElem?_eq_some_iff.1 hj).1
 have hkl := (List.getElem?_eq_some_iff.1 hk).1
 have HGN : Hid (q.L.getD q.at' default = n) := Lib.hid (by rw [List.getD_eq_getElem?_getD, hn]; rfl)
 obtain ⟨r, hr⟩ : ∃ r, r = stepM q.L most who ⟨q.at', q.vars, q.out, M, lg⟩ := ⟨_, rfl⟩
 rw [← hr]
 have HR := Lib.hid hr
 clear hr
 obtain ⟨w1, hw1⟩ : ∃ w1, w1 = W.alloc (.cells wantZ 50) := ⟨_, rfl⟩
 obtain ⟨b8, hb8⟩ : ∃ b8, b8 = W.heap.size := ⟨_, rfl⟩
 have HL1 : Hid (Lies w0 w1 (l ++ [bkT b8 50 wantZ.toList])) := by rw [hw1, hb8]; exact Lib.hid (h.newBk _ _)
 have HI1 : Hid ((l ++ [bkT b8 50 wantZ.toList])[i]? = some (stT q)) := Lib.hid (by rw [List.getElem?_append_left hil]; exact hi)
 have HJ1 : Hid ((l ++ [bkT b8 50 wantZ.toList])[j]? = some (rowsT rb M)) := Lib.hid (by rw [List.getElem?_append_left hjl]; exact hj)
 have HW1 := Lib.hid hw1
 have HB8 := Lib.hid hb8
 have HI := Lib.hid hi
 have HJ := Lib.hid hj
 have HK := Lib.hid hk
 have HF := Lib.hid hf
 have HN := Lib.hid hn
 have HG := Lib.hid hg
 have HC := Lib.hid hc
 have b1 := (HL1.out.stR i HI1.out).box.cell 1
 have htb := (HL1.out.stR i HI1.out).tabs
 obtain ⟨ta, tc, htv⟩ := htb.shape
 simp only [StV.cs, List.getElem?_cons_zero, List.getElem?_cons_succ] at b1
 rw [htv] at b1 htb
 rw [hw1] at b1
 have HTB := Lib.hid htb
 clear h hi hj hk hf hn hg hc hw1 htv hb8 htb
 go_enter Tryz.func21, Tryz.ntmps21
 go_wp2_with fail
 rw [← HW1.out, ← HB8.out]
 refine (fits_any HL1.out j HJ1.out _ HTB.out HG.out HC.out).mono ?_
 rintro e w2 ⟨rfl, hf2⟩
 have HL2 := Lib.hid (HL1.out.fr0 hf2)
 clear hf2 b1
 have b0 := (HL2.out.stR i HI1.out).box.cell 0
 have b2 := (HL2.out.stR i HI1.out).box.cell 2
 simp only [StV.cs, List.getElem?_cons_zero, List.getElem?_cons_succ] at b0 b2
 obtain ⟨b, off, cap, hlv, hlc⟩ := (HL2.out.stR i HI1.out).code.form (by omega)
 have HLV := Lib.hid hlv
 rw [hlv] at b0
 have HNX := Lib.hid (fun (w : World) (hf : Fr w2 w Nil) => next_any q nv n w ((HL2.out.stR i HI1.out).fr0 hf) HF.out HN.out)
 obtain ⟨ka, kc, va, vc, hkt, hvt, p0, p1, p2, p3, p4, p5, p6, p7, p8, p9, p10, p11, p12⟩ := (hlc q.at' n HN.out).cell
 have HKT := Lib.hid hkt
 have HVT := Lib.hid hvt
 have HP11 := Lib.hid p11
 have HP12 := Lib.hid p12
 have k0 := KeptF.cell b0
 have k2 := KeptF.cell b2
 have j0 := KeptF.cell p0
 have j1 := KeptF.cell p1
 have j2 := KeptF.cell p2
 have j3 := KeptF.cell p3
 have j4 := KeptF.cell p4
 have j5 := KeptF.cell p5
 have j6 := KeptF.cell p6
 have j7 := KeptF.cell p7
 have j8 := KeptF.cell p8
 have j9 := KeptF.cell p9
 have j10 := KeptF.cell p10
 have j11 := KeptF.cell p11
 have j12 := KeptF.cell p12
 clear hlc hlv hkt hvt b0 b2 p0 p1 p2 p3 p4 p5 p6 p7 p8 p9 p10 p11 p12
 obtain ⟨op, node, mode, tab, row, col, var, dst, eq, fro, upto, key, vals⟩ := n
 simp only at HKT HVT HP11 HP12 j0 j1 j2 j3 j4 j5 j6 j7 j8 j9 j10 j11 j12
 obtain ⟨x, hx⟩ : ∃ x, x = nextP ⟨op, node, mode, tab, row, col, var, dst, eq, fro, upto, key, vals⟩ q.vars := ⟨_, rfl⟩
 rw [← hx] at HNX
 have HX := Lib.hid hx
 clear hx
 obtain ⟨wk, wt, wr, wy, wm, wto, wwr⟩ := x
 simp only [WantD.val] at HNX
 go_wp2_with fail
 go_cut [10, 11] from 38 to 49 (fun v10 v11 wx => ∃ bw bn, v10 = .pointer (some ⟨bw, 0, none⟩) ∧ v11 = .pointer (some ⟨bn, 0, none⟩) ∧ Bk wx bw 50 [.int .u8 wk, .int .i64 wt, .bool wr, .int .i64 wy, .int .u8 wm, .bool wto, .bool wwr] ∧ Bk wx bn 81 [.int .u8 op, .int .i64 node, .int .u8 mode, .int .i64 tab, .bool row, .int .i64 col, .int .i64 var, .int .i64 dst, .bool eq, .int .i64 fro, .int .i64 upto, .slice ka key.length kc, .slice va vals.length vc] ∧ w2.heap.size ≤ bw ∧ w2.heap.size ≤ bn ∧ Fr w2 wx Nil)
 case first =>
  refine wp_region_sink 15 (KeptF w2) (by kernel_rfl) ?_
  have hS0 : KeptF w2 w2.drew := KeptF.start _
  refine tk 0 hS0 ?_
  refine tk 2 hS0 ?_
  refine tk 3 hS0 ?_
  refine tk 4 hS0 ?_
  try simp only [Act.put, sA, sB, sC]
  refine tk 5 hS0 ?_ (hy := by intro _ w; have ck0 := k0 _ w; go_simp <;> with_reducible rfl)
  try simp only [Act.put, sA, sB, sC]
  refine tk 6 hS0 ?_
  refine tk 7 hS0 ?_
  refine tk 8 hS0 ?_
  try simp only [Act.put, sA, sB, sC]
  refine tk 9 hS0 ?_ (hy := by intro _ w; have ck2 := k2 _ w; go_simp <;> with_reducible rfl)
  try simp only [Act.put, sA, sB, sC]
  refine tk 10 hS0 ?_
  try simp only [Act.put, sA, sB, sC]
  refine tk 11 hS0 ?_ (hy := by intro _ w; have cj0 := j0 _ w; have cj1 := j1 _ w; have cj2 := j2 _ w; have cj3 := j3 _ w; have cj4 := j4 _ w; have cj5 := j5 _ w; have cj6 := j6 _ w; have cj7 := j7 _ w; have cj8 := j8 _ w; have cj9 := j9 _ w; have cj10 := j10 _ w; have cj11 := j11 _ w; have cj12 := j12 _ w; go_simp <;> with_reducible rfl)
  try simp only [Act.put, sA, sB, sC]
  refine wpAnyS_three (i := 1) (j := 12) (k := 13) rfl rfl rfl (by kernel_rfl) (by decide) (by decide) (by decide) (by rfl) (by rfl) (by rfl) (fun K hK => ?_) (fun K hK => ?_) (fun K hK => ?_)
  go_simp
  refine (HNX.out _ (KeptF.fr hS0)).mono ?_
  rintro e u1 ⟨he, hfc⟩
  subst he
  have hS1 := KeptF.next hS0 hfc
  refine hK.out _ _ hS1 ?_
  clear hK K
  try simp only [Act.put, sA, sB, sC]
  have hz1 := hfc.size
  (try simp only [World.size_alloc] at hz1)
  refine wpAnyS_two (i := 12) (j := 13) rfl rfl (by kernel_rfl) (by decide) (by decide) (by rfl) (by rfl) (fun K hK => ?_) (fun K hK => ?_)
  go_simp
  have hbW : Bk (u1.alloc (.cells wantZ 50)) u1.heap.size 50 wantZ.toList := Bk.new _ _ _
  have hnW : w2.heap.size ≤ u1.heap.size := by have h9 := (KeptF.fr hS1).size; (try simp only [World.size_alloc] at h9); (try simp at h9); have hd0 : w2.drew.heap.size = w2.heap.size := rfl; omega
  have hS2 := KeptF.next hS1 ((Fr.refl _ Nil).alloc (.cells wantZ 50))
  refine hK.out _ _ hS2 ?_
  clear hK K
  try simp only [Act.put, sA, sB, sC]
  refine on1 13 fun K hK => ?_
  go_simp
  have hbI : Bk ((u1.alloc (.cells wantZ 50)).alloc (.cells insZ 81)) (u1.heap.size + 1) 81 insZ.toList := by have h9 := Bk.new (u1.alloc (.cells wantZ 50)) 81 insZ; rwa [World.size_alloc] at h9
  have hnI : w2.heap.size ≤ (u1.heap.size + 1) := by have h9 := (KeptF.fr hS2).size; (try simp only [World.size_alloc] at h9); (try simp at h9); have hd0 : w2.drew.heap.size = w2.heap.size := rfl; omega
  have hS3 := KeptF.next hS2 ((Fr.refl _ Nil).alloc (.cells insZ 81))
  have hneI : ¬ ((u1.heap.size + 1)) = (u1.heap.size) := by have hd0 : w2.drew.heap.size = w2.heap.size := rfl; omega
  refine hK.out _ _ hS3 ?_
  clear hK K
  try simp only [Act.put, sA, sB, sC]
  have hbZ := (hbW.alloc (.cells insZ 81))
  have hbY := hbI
  have hSZ := hS3
  rotate_left
  go_simp
  have hbI : Bk (u1.alloc (.cells insZ 81)) u1.heap.size 81 insZ.toList := Bk.new _ _ _
  have hnI : w2.heap.size ≤ u1.heap.size := by have h9 := (KeptF.fr hS1).size; (try simp only [World.size_alloc] at h9); (try simp at h9); have hd0 : w2.drew.heap.size = w2.heap.size := rfl; omega
  have hS2 := KeptF.next hS1 ((Fr.refl _ Nil).alloc (.cells insZ 81))
  refine hK.out _ _ hS2 ?_
  clear hK K
  try simp only [Act.put, sA, sB, sC]
  refine on1 12 fun K hK => ?_
  go_simp
  have hbW : Bk ((u1.alloc (.cells insZ 81)).alloc (.cells wantZ 50)) (u1.heap.size + 1) 50 wantZ.toList := by have h9 := Bk.new (u1.alloc (.cells insZ 81)) 50 wantZ; rwa [World.size_alloc] at h9
  have hnW : w2.heap.size ≤ (u1.heap.size + 1) := by have h9 := (KeptF.fr hS2).size; (try simp only [World.size_alloc] at h9); (try simp at h9); have hd0 : w2.drew.heap.size = w2.heap.size := rfl; omega
  have hS3 := KeptF.next hS2 ((Fr.refl _ Nil).alloc (.cells wantZ 50))
  have hneI : ¬ (u1.heap.size) = ((u1.heap.size + 1)) := by have hd0 : w2.drew.heap.size = w2.heap.size := rfl; omega
  refine hK.out _ _ hS3 ?_
  clear hK K
  try simp only [Act.put, sA, sB, sC]
  have hbZ := hbW
  have hbY := (hbI.alloc (.cells wantZ 50))
  have hSZ := hS3
  rotate_left
  go_simp
  have hbW : Bk (w2.drew.alloc (.cells wantZ 50)) w2.heap.size 50 wantZ.toList := Bk.new _ _ _
  have hnW : w2.heap.size ≤ w2.heap.size := by have h9 := (KeptF.fr hS0).size; (try simp only [World.size_alloc] at h9); (try simp at h9); have hd0 : w2.drew.heap.size = w2.heap.size := rfl; omega
  have hS1 := KeptF.next hS0 ((Fr.refl _ Nil).alloc (.cells wantZ 50))
  refine hK.out _ _ hS1 ?_
  clear hK K
  try simp only [Act.put, sA, sB, sC]
  refine wpAnyS_two (i := 1) (j := 13) rfl rfl (by kernel_rfl) (by decide) (by decide) (by rfl) (by rfl) (fun K hK => ?_) (fun K hK => ?_)
  go_simp
  refine (HNX.out _ (KeptF.fr hS1)).mono ?_
  rintro e u2 ⟨he, hfc⟩
  subst he
  have hS2 := KeptF.next hS1 hfc
  refine hK.out _ _ hS2 ?_
  clear hK K
  try simp only [Act.put, sA, sB, sC]
  have hz2 := hfc.size
  (try simp only [World.size_alloc] at hz2)
  refine on1 13 fun K hK => ?_
  go_simp
  have hbI : Bk (u2.alloc (.cells insZ 81)) u2.heap.size 81 insZ.toList := Bk.new _ _ _
  have hnI : w2.heap.size ≤ u2.heap.size := by have h9 := (KeptF.fr hS2).size; (try simp only [World.size_alloc] at h9); (try simp at h9); have hd0 : w2.drew.heap.size = w2.heap.size := rfl; omega
  have hS3 := KeptF.next hS2 ((Fr.refl _ Nil).alloc (.cells insZ 81))
  have hneI : ¬ (u2.heap.size) = (w2.heap.size) := by have hd0 : w2.drew.heap.size = w2.heap.size := rfl; omega
  refine hK.out _ _ hS3 ?_
  clear hK K
  try simp only [Act.put, sA, sB, sC]
  have hbZ := ((hbW.fr hfc fun h => h).alloc (.cells insZ 81))
  have hbY := hbI
  have hSZ := hS3
  rotate_left
  go_simp
  have hbI : Bk ((w2.drew.alloc (.cells wantZ 50)).alloc (.cells insZ 81)) (w2.heap.size + 1) 81 insZ.toList := by have h9 := Bk.new (w2.drew.alloc (.cells wantZ 50)) 81 insZ; rwa [World.size_alloc] at h9
  have hnI : w2.heap.size ≤ (w2.heap.size + 1) := by have h9 := (KeptF.fr hS1).size; (try simp only [World.size_alloc] at h9); (try simp at h9); have hd0 : w2.drew.heap.size = w2.heap.size := rfl; omega
  have hS2 := KeptF.next hS1 ((Fr.refl _ Nil).alloc (.cells insZ 81))
  have hneI : ¬ ((w2.heap.size + 1)) = (w2.heap.size) := by have hd0 : w2.drew.heap.size = w2.heap.size := rfl; omega
  refine hK.out _ _ hS2 ?_
  clear hK K
  try simp only [Act.put, sA, sB, sC]
  refine on1 1 fun K hK => ?_
  go_simp
  refine (HNX.out _ (KeptF.fr hS2)).mono ?_
  rintro e u3 ⟨he, hfc⟩
  subst he
  have hS3 := KeptF.next hS2 hfc
  refine hK.out _ _ hS3 ?_
  clear hK K
  try simp only [Act.put, sA, sB, sC]
  have hz3 := hfc.size
  (try simp only [World.size_alloc] at hz3)
  have hbZ := ((hbW.alloc (.cells insZ 81)).fr hfc fun h => h)
  have hbY := (hbI.fr hfc fun h => h)
  have hSZ := hS3
  rotate_left
  go_simp
  have hbI : Bk (w2.drew.alloc (.cells insZ 81)) w2.heap.size 81 insZ.toList := Bk.new _ _ _
  have hnI : w2.heap.size ≤ w2.heap.size := by have h9 := (KeptF.fr hS0).size; (try simp only [World.size_alloc] at h9); (try simp at h9); have hd0 : w2.drew.heap.size = w2.heap.size := rfl; omega
  have hS1 := KeptF.next hS0 ((Fr.refl _ Nil).alloc (.cells insZ 81))
  refine hK.out _ _ hS1 ?_
  clear hK K
  try simp only [Act.put, sA, sB, sC]
  refine wpAnyS_two (i := 1) (j := 12) rfl rfl (by kernel_rfl) (by decide) (by decide) (by rfl) (by rfl) (fun K hK => ?_) (fun K hK => ?_)
  go_simp
  refine (HNX.out _ (KeptF.fr hS1)).mono ?_
  rintro e u2 ⟨he, hfc⟩
  subst he
  have hS2 := KeptF.next hS1 hfc
  refine hK.out _ _ hS2 ?_
  clear hK K
  try simp only [Act.put, sA, sB, sC]
  have hz2 := hfc.size
  (try simp only [World.size_alloc] at hz2)
  refine on1 12 fun K hK => ?_
  go_simp
  have hbW : Bk (u2.alloc (.cells wantZ 50)) u2.heap.size 50 wantZ.toList := Bk.new _ _ _
  have hnW : w2.heap.size ≤ u2.heap.size := by have h9 := (KeptF.fr hS2).size; (try simp only [World.size_alloc] at h9); (try simp at h9); have hd0 : w2.drew.heap.size = w2.heap.size := rfl; omega
  have hS3 := KeptF.next hS2 ((Fr.refl _ Nil).alloc (.cells wantZ 50))
  have hneI : ¬ (w2.heap.size) = (u2.heap.size) := by have hd0 : w2.drew.heap.size = w2.heap.size := rfl; omega
  refine hK.out _ _ hS3 ?_
  clear hK K
  try simp only [Act.put, sA, sB, sC]
  have hbZ := hbW
  have hbY := ((hbI.fr hfc fun h => h).alloc (.cells wantZ 50))
  have hSZ := hS3
  rotate_left
  go_simp
  have hbW : Bk ((w2.drew.alloc (.cells insZ 81)).alloc (.cells wantZ 50)) (w2.heap.size + 1) 50 wantZ.toList := by have h9 := Bk.new (w2.drew.alloc (.cells insZ 81)) 50 wantZ; rwa [World.size_alloc] at h9
  have hnW : w2.heap.size ≤ (w2.heap.size + 1) := by have h9 := (KeptF.fr hS1).size; (try simp only [World.size_alloc] at h9); (try simp at h9); have hd0 : w2.drew.heap.size = w2.heap.size := rfl; omega
  have hS2 := KeptF.next hS1 ((Fr.refl _ Nil).alloc (.cells wantZ 50))
  have hneI : ¬ (w2.heap.size) = ((w2.heap.size + 1)) := by have hd0 : w2.drew.heap.size = w2.heap.size := rfl; omega
  refine hK.out _ _ hS2 ?_
  clear hK K
  try simp only [Act.put, sA, sB, sC]
  refine on1 1 fun K hK => ?_
  go_simp
  refine (HNX.out _ (KeptF.fr hS2)).mono ?_
  rintro e u3 ⟨he, hfc⟩
  subst he
  have hS3 := KeptF.next hS2 hfc
  refine hK.out _ _ hS3 ?_
  clear hK K
  try simp only [Act.put, sA, sB, sC]
  have hz3 := hfc.size
  (try simp only [World.size_alloc] at hz3)
  have hbZ := (hbW.fr hfc fun h => h)
  have hbY := ((hbI.alloc (.cells wantZ 50)).fr hfc fun h => h)
  have hSZ := hS3
  rotate_left
  all_goals
   refine on1 14 fun K hK => ?_
   refine wp_store_bk 50 _ _ rfl _ _ _ [.int .u8 wk, .int .i64 wt, .bool wr, .int .i64 wy, .int .u8 wm, .bool wto, .bool wwr] _ rfl rfl rfl iW hiW hsW hbZ rfl (by simp [Value.oneCell']) ?_
   intro w8 hb8 hf8
   have hS8 : KeptF w2 w8 := KeptF.store hSZ hf8 hnW
   refine hK.out _ _ hS8 ?_
   clear hK K
   refine wpAnyS_last (i := 15) rfl (by kernel_rfl) (by decide) (by kernel_rfl) (by rfl) fun K hK => ?_
   refine wp_store_bk 81 _ _ rfl _ _ _ [.int .u8 op, .int .i64 node, .int .u8 mode, .int .i64 tab, .bool row, .int .i64 col, .int .i64 var, .int .i64 dst, .bool eq, .int .i64 fro, .int .i64 upto, .slice ka key.length kc, .slice va vals.length vc] _ rfl rfl rfl iI hiI hsI (hbY.fr hf8 hneI) rfl (by simp [Value.oneCell']) ?_
   intro w9 hb9 hf9
   refine hK.out _ _ ?_
   clear hK K
   have hR9 : Fr w2 w9 Nil := KeptF.fr (KeptF.store hS8 hf9 hnI)
   have hR8 := hb8.fr hf9 (Ne.symm hneI)
   clear hS8 hf8 hf9 hb8
   have HR8 := Lib.hid hR8
   have HB9 := Lib.hid hb9
   have HR9 := Lib.hid hR9
   clear hR8 hb9 hR9
   go_wp2_with fail
   go_meet
   case rel => exact ⟨_, _, rfl, rfl, HR8.out, HB9.out, hnW, hnI, HR9.out⟩
 case rest =>
  obtain ⟨bw, bn, rfl, rfl, hbw, hbn, hsw, hsn, hfx⟩ := hcut
  clear HNX k0 k2 j0 j1 j2 j3 j4 j5 j6 j7 j8 j9 j10 j11 j12
  obtain ⟨l2, hl2⟩ : ∃ l2, l2 = l ++ [bkT b8 50 wantZ.toList, pairT bw bn 50 81 [.int .u8 wk, .int .i64 wt, .bool wr, .int .i64 wy, .int .u8 wm, .bool wto, .bool wwr] [.int .u8 op, .int .i64 node, .int .u8 mode, .int .i64 tab, .bool row, .int .i64 col, .int .i64 var, .int .i64 dst, .bool eq, .int .i64 fro, .int .i64 upto, .slice ka key.length kc, .slice va vals.length vc]] := ⟨_, rfl⟩
  have HL2E := Lib.hid hl2
  have il : i < l2.length := by rw [hl2, List.length_append]; omega
  have jl : j < l2.length := by rw [hl2, List.length_append]; omega
  have kl : k < l2.length := by rw [hl2, List.length_append]; omega
  have HGB : Hid (l2[l.length]? = some (bkT b8 50 wantZ.toList)) := Lib.hid (by rw [hl2]; simp)
  have HGP : Hid (l2[l.length + 1]? = some (pairT bw bn 50 81 [.int .u8 wk, .int .i64 wt, .bool wr, .int .i64 wy, .int .u8 wm, .bool wto, .bool wwr] [.int .u8 op, .int .i64 node, .int .u8 mode, .int .i64 tab, .bool row, .int .i64 col, .int .i64 var, .int .i64 dst, .bool eq, .int .i64 fro, .int .i64 upto, .slice ka key.length kc, .slice va vals.length vc])) := Lib.hid (by rw [hl2, List.getElem?_append_right (by omega), Nat.add_sub_cancel_left]; rfl)
  have HLx : Hid (Lies w0 wc (L3 l2 i j k (stT q) (rowsT rb M) (logT ub most lg))) := by
   have e1 : l2[i]? = some (stT q) := by rw [hl2, List.getElem?_append_left hil]; exact HI.out
   have e2 : l2[j]? = some (rowsT rb M) := by rw [hl2, List.getElem?_append_left hjl]; exact HJ.out
   have e3 : l2[k]? = some (logT ub most lg) := by rw [hl2, List.getElem?_append_left hkl]; exact HK.out
   rw [L3.self e1 e2 e3, hl2]
   have h9 := HL2.out.add (pairT bw bn 50 81 [.int .u8 wk, .int .i64 wt, .bool wr, .int .i64 wy, .int .u8 wm, .bool wto, .bool wwr] [.int .u8 op, .int .i64 node, .int .u8 mode, .int .i64 tab, .bool row, .int .i64 col, .int .i64 var, .int .i64 dst, .bool eq, .int .i64 fro, .int .i64 upto, .slice ka key.length kc, .slice va vals.length vc]) (W' := wc) (S := fun k => k = bw ∨ k = bn) ⟨⟨hbw, hbn⟩, fun _ => Iff.rfl⟩ (fun k hk => hk.elim (fun e => by rw [e]; exact hsw) fun e => by rw [e]; exact hsn) hfx
   rw [List.append_assoc] at h9
   exact Lib.hid h9
  have HKTx := Lib.hid (HKT.out.fr0 hfx)
  have HVTx := Lib.hid (HVT.out.fr0 hfx)
  have HP11x := Lib.hid (hfx.cell HP11.out fun h => h)
  have HP12x := Lib.hid (hfx.cell HP12.out fun h => h)
  clear hbw hbn hsw hsn hfx hl2 HKT HVT HP11 HP12 HL1 HL2 HTB
  have HPW : Hid (∀ (w : World) (x y z : Thing), Lies w0 w (L3 l2 i j k x y z) → Bk w bw 50 [.int .u8 wk, .int .i64 wt, .bool wr, .int .i64 wy, .int .u8 wm, .bool wto, .bool wwr] ∧ Bk w bn 81 [.int .u8 op, .int .i64 node, .int .u8 mode, .int .i64 tab, .bool row, .int .i64 col, .int .i64 var, .int .i64 dst, .bool eq, .int .i64 fro, .int .i64 upto, .slice ka key.length kc, .slice va vals.length vc]) := Lib.hid (fun w x y z h => h.pair (l.length + 1) (by rw [L3.get (by omega) (by omega) (by omega)]; exact HGP.out))
  have HPB : Hid (∀ (w : World) (x y z : Thing), Lies w0 w (L3 l2 i j k x y z) → Bk w b8 50 wantZ.toList) := Lib.hid (fun w x y z h => h.bk l.length (by rw [L3.get (by omega) (by omega) (by omega)]; exact HGB.out))
  have x0 := (HPW.out _ _ _ _ HLx.out).1.cell 0
  have x1 := (HPW.out _ _ _ _ HLx.out).1.cell 1
  have x2 := (HPW.out _ _ _ _ HLx.out).1.cell 2
  have x3 := (HPW.out _ _ _ _ HLx.out).1.cell 3
  have x4 := (HPW.out _ _ _ _ HLx.out).1.cell 4
  have x5 := (HPW.out _ _ _ _ HLx.out).1.cell 5
  have x6 := (HPW.out _ _ _ _ HLx.out).1.cell 6
  simp only [List.getElem?_cons_zero, List.getElem?_cons_succ] at x0 x1 x2 x3 x4 x5 x6
  have y0 := (HPW.out _ _ _ _ HLx.out).2.cell 0
  have y3 := (HPW.out _ _ _ _ HLx.out).2.cell 3
  simp only [List.getElem?_cons_zero, List.getElem?_cons_succ] at y0 y3
  by_cases hk1 : wk = 1
  ·exact absurd ((nextP_kind q.vars (HF.out.ok.all _ _ HN.out).lo (HF.out.ok.all _ _ HN.out).hi).1 (by rw [← HX.out]; exact hk1)) (by show ¬ ((3 : Int) ≤ op ∧ op ≤ 13); omega)
  ·have d1 : (wk != 1) = true := by rw [bne_iff_ne]; exact hk1
   have HR4 : Hid (r = (⟨wk, wt, wr, wy, wm, wto, wwr⟩, 0, ⟨q.at', q.vars, q.out, M, lg⟩)) := Lib.hid (by rw [HR.out]; exact stepM_want HGN.out HX.out hk1)
   clear hk1
   have z0 : wc.cell? ⟨b8, 0, none⟩ = some (.int .u8 0) := (HPB.out _ _ _ _ HLx.out).cell 0
   have z1 : wc.cell? ⟨b8, 1, none⟩ = some (.int .i64 0) := (HPB.out _ _ _ _ HLx.out).cell 1
   have z2 : wc.cell? ⟨b8, 2, none⟩ = some (.bool false) := (HPB.out _ _ _ _ HLx.out).cell 2
   have z3 : wc.cell? ⟨b8, 3, none⟩ = some (.int .i64 0) := (HPB.out _ _ _ _ HLx.out).cell 3
   have z4 : wc.cell? ⟨b8, 4, none⟩ = some (.int .u8 0) := (HPB.out _ _ _ _ HLx.out).cell 4
   have z5 : wc.cell? ⟨b8, 5, none⟩ = some (.bool false) := (HPB.out _ _ _ _ HLx.out).cell 5
   have z6 : wc.cell? ⟨b8, 6, none⟩ = some (.bool false) := (HPB.out _ _ _ _ HLx.out).cell 6
   have s8 := (HPB.out _ _ _ _ HLx.out).free
   go_wp2_with fail
   refine set7_world (HPB.out _ _ _ _ HLx.out) ?_
   intro w9 hb9 hf9
   have HLF := Lib.hid (step_fin (by rw [← HL2E.out]; exact HLx.out) hil hjl hkl (by rw [← HL2E.out]; exact HGB.out) hb9 hf9)
   have t0 := hb9.cell 0
   have t1 := hb9.cell 1
   have t2 := hb9.cell 2
   have t3 := hb9.cell 3
   have t4 := hb9.cell 4
   have t5 := hb9.cell 5
   have t6 := hb9.cell 6
   simp only [List.getElem?_cons_zero, List.getElem?_cons_succ] at t0 t1 t2 t3 t4 t5 t6
   clear hb9 hf9 s8 z0 z1 z2 z3 z4 z5 z6
   go_wp2_with fail
   exact bodyPost_ret (v := .tuple #[(⟨wk, wt, wr, wy, wm, wto, wwr⟩ : WantD).val, .int .i64 0]) (by simp [results, Tryz.results21, go_sem, t0, t1, t2, t3, t4, t5, t6]; try rfl) rfl ⟨by rw [HR4.out], q.ov, by rw [HR4.out]; exact HLF.out⟩
end
end Go.Proofs.YtgpekgnhbccnoaaGreat
namespace Go.Proofs.YtgpekgnhbccnoaaGreat
open Go Go.RowKit
attribute [local go_sem ↓] Go.wp_at_zero Go.wp_at_succ
attribute [local go_sem] Tryz.someFunc Tryz.noFunc

section
variable {w0 W : World} {l : List Thing} {q : StV} {M : List MTab} {rb ub : Nat} {most : Int} {lg : List (Int × Ent)}
set_option maxHeartbeats 400000 in
theorem step_any (h : Lies w0 W l) (i j k : Nat) (hi : l[i]? = some (stT q)) (hj : l[j]? = some (rowsT rb M)) (hk : l[k]? = some (logT ub most lg)) (hij : i ≠ j) (hik : i ≠ k) (hjk : j ≠ k) (nv : Nat) (hf : StF q nv) (n : InstrD) (hn : q.L[q.at']? = some n) (hg : Good M) (hc : colsN M = q.TB) (who : Int) (hw : (Lit.int .i64 who).wf = true) (hll : lg.length ≤ 100000) (hol : q.out.length ≤ 100000) :
  Calls Tryz.prog 21 #[.pointer (some ⟨q.sb, 0, none⟩), .int .i64 who, rptr rb, lptr ub] W (StepRet w0 l i j k q rb ub most (stepM q.L most who ⟨q.at', q.vars, q.out, M, lg⟩)) := by
 by_cases h0 : n.op < 3 ∨ 13 < n.op
 ·exact step_w h i j k hi hj hk hij hik hjk nv hf n hn hg hc who hw hll hol h0
 by_cases h3 : n.op = 3 ∨ n.op = 4 ∨ n.op = 5 ∨ n.op = 6
 ·exact step_3_4_5_6 h i j k hi hj hk hij hik hjk nv hf n hn hg hc who hw hll hol h3
 by_cases h7 : n.op = 7 ∨ n.op = 8 ∨ n.op = 9
 ·exact step_7_8_9 h i j k hi hj hk hij hik hjk nv hf n hn hg hc who hw hll hol h7
 by_cases h10 : n.op = 10 ∨ n.op = 11
 ·exact step_10_11 h i j k hi hj hk hij hik hjk nv hf n hn hg hc who hw hll hol h10
 by_cases h12 : n.op = 12 ∨ n.op = 13
 ·exact step_12_13 h i j k hi hj hk hij hik hjk nv hf n hn hg hc who hw hll hol h12
 omega
end
end Go.Proofs.YtgpekgnhbccnoaaGreat
namespace Go.Proofs.YtgpekgnhbccnoaaGreat
open Go Go.RowKit
attribute [local go_sem ↓] Go.wp_at_zero Go.wp_at_succ

def exLI : List InstrD := [⟨1, 0, 5, 0, true, 0, 0, 0, false, 0, 0, [⟨1, 5, 0⟩], []⟩, ⟨4, 0, 0, 0, false, 0, 0, 0, false, 0, 0, [⟨1, 5, 0⟩], [[⟨1, 1, 0⟩]]⟩, ⟨16, 0, 0, 0, false, 0, 0, 0, false, 0, 0, [], []⟩]
theorem exLI_cases {i : Nat} {n : InstrD} (h : exLI[i]? = some n) : (i = 0 ∧ n = ⟨1, 0, 5, 0, true, 0, 0, 0, false, 0, 0, [⟨1, 5, 0⟩], []⟩) ∨ (i = 1 ∧ n = ⟨4, 0, 0, 0, false, 0, 0, 0, false, 0, 0, [⟨1, 5, 0⟩], [[⟨1, 1, 0⟩]]⟩) ∨ (i = 2 ∧ n = ⟨16, 0, 0, 0, false, 0, 0, 0, false, 0, 0, [], []⟩) := by
 match i, h with
 | 0, h => exact .inl ⟨rfl, (Option.some.inj h).symm⟩
 | 1, h => exact .inr (.inl ⟨rfl, (Option.some.inj h).symm⟩)
 | 2, h => exact .inr (.inr ⟨rfl, (Option.some.inj h).symm⟩)
 | n + 3, h => cases h
theorem exLI_right : RightP [1] 0 exLI where
 ne := by decide
 pos := by decide
 one i n h := by
  rcases exLI_cases h with ⟨rfl, rfl⟩ | ⟨rfl, rfl⟩ | ⟨rfl, rfl⟩
  all_goals
   refine ⟨⟨by decide, ⟨by decide, by decide, by decide, by decide, by decide, by decide, by decide, by decide, by decide, by decide, by decide⟩, by unfold TabP; decide, by unfold ColP; decide, by unfold VarP; decide, by unfold DstP; decide, by unfold ModeP; decide, by unfold KeyP Keyed; decide, by unfold ValsP wantN; decide⟩, by decide⟩
 jump k i m n hk _ hm := by
  rcases exLI_cases hk with ⟨rfl, rfl⟩ | ⟨rfl, rfl⟩ | ⟨rfl, rfl⟩
  all_goals exact absurd hm (by decide)
theorem exLI_few : FewC exLI := by
 refine ⟨by decide, fun n hn => ?_⟩
 obtain ⟨i, hi⟩ := List.getElem?_of_mem hn
 rcases exLI_cases hi with ⟨rfl, rfl⟩ | ⟨rfl, rfl⟩ | ⟨rfl, rfl⟩
 all_goals refine ⟨by decide, by decide, by decide⟩
def NumRet (n : Int) (w : World) (e : Ending) (w' : World) : Prop := ∃ b, e = .returned (.slice (some ⟨b, 0, none⟩) 1 1) ∧ TermsAt w' (.slice (some ⟨b, 0, none⟩) 1 1) [⟨1, n, 0⟩] ∧ Fr w w' Nil
set_option maxRecDepth 100000 in
set_option maxHeartbeats 400000 in
theorem number_any (n : Int) (w : World) : Calls Tryz.prog 34 #[.int .i64 n] w (NumRet n w) := by
 have H : Hid (SlAt (w.alloc (.cells #[.int .u8 1, .int .i64 n, .int .i64 0] 84)) 3 (.slice (some ⟨w.heap.size, 0, none⟩) 1 1) 1 [.int .u8 1, .int .i64 n, .int .i64 0]) := by
  have h9 := (SlAt.of_own (World.ownsRow_lit (base := 0) (e := 84) (size := 3) w #[.int .u8 1, .int .i64 n, .int .i64 0] 1 (Nat.zero_le _) (by decide) rfl)).1
  exact Lib.hid (by simpa using h9)
 go_enter Tryz.func34, Tryz.ntmps34
 go_wp2_with fail
 go_ret
 exact ⟨_, rfl, H.out, (Fr.refl w Nil).alloc _⟩
def exR0 : List MTab := newMod [1]
def exR1 : List MTab := [(1, [(5, [7])])]
def exR2 : List MTab := [(1, [(5, [1])])]
theorem exR0_ok : Good exR0 ∧ Few 0 exR0 := good_new (cols := [1]) ⟨by decide, by decide⟩
theorem ex_put : mput exR0 0 5 [7] = (exR1, 0) := by decide
theorem exR1_ok : Good exR1 ∧ Few 1 exR1 := by have := good_put exR0_ok.1 exR0_ok.2 (by decide) 0 5 [7]; rw [ex_put] at this; exact this
theorem ex_set : mset exR1 0 5 0 1 = (exR2, true, 0) := by decide
theorem exR2_ok : Good exR2 ∧ Few 1 exR2 := by have := good_set exR1_ok.1 exR1_ok.2 0 5 0 1; rw [ex_set] at this; exact this
theorem ex_step1 : stepM exLI 9 1 ⟨0, [], [], exR1, []⟩ = (⟨2, 0, true, 5, 5, false, false⟩, 0, ⟨0, [], [], exR1, []⟩) := by kernel_rfl
theorem ex_step2 : stepM exLI 9 1 ⟨1, [], [], exR1, []⟩ = (⟨1, 0, true, 5, 0, true, true⟩, 0, ⟨2, [], [], exR2, [(1, (0, 5, some [7]))]⟩) := by kernel_rfl
theorem ex_step3 : stepM exLI 9 1 ⟨2, [], [], exR2, [(1, (0, 5, some [7]))]⟩ = (⟨6, 0, false, 0, 0, false, false⟩, 0, ⟨2, [], [], exR2, [(1, (0, 5, some [7]))]⟩) := by kernel_rfl
theorem ex_sum : msum (mtab exR2 0) 0 = 1 := by decide
theorem ex_of : (ofL [((1 : Int), ((0, 5, some [7]) : Ent))] 1).length = 1 := by decide
theorem ex_F {sb : Nat} {lv tv vv ov : Value} {at' : Nat} {out : List Int} (h : at' < 3) : StF ⟨sb, lv, tv, vv, ov, exLI, [1], at', [], out⟩ 0 := ⟨exLI_few, rfl, by decide, h, exLI_right.ok, (by show 1 ≤ 100000; omega)⟩
def ExCode (w3 w4 : World) (lv tv : Value) : Prop := CodeAt w4 lv exLI ∧ CapOk lv ∧ IntsAt w4 tv [1] ∧ Fr w3 w4 Nil
theorem ex_code {w3 w4 : World} {b1 b2 b3 : Nat} (ht1 : TermsAt w3 (.slice (some ⟨b1, 0, none⟩) 1 1) [⟨1, 5, 0⟩]) (ht2 : TermsAt w3 (.slice (some ⟨b2, 0, none⟩) 1 1) [⟨1, 5, 0⟩]) (ht3 : TermsAt w3 (.slice (some ⟨b3, 0, none⟩) 1 1) [⟨1, 1, 0⟩])
  (hw : w4 = (((w3.alloc (.cells #[.slice (some ⟨b3, 0, none⟩) 1 1] 77)).alloc (.cells #[.int .u8 1, .int .i64 0, .int .u8 5, .int .i64 0, .bool true, .int .i64 0, .int .i64 0, .int .i64 0, .bool false, .int .i64 0, .int .i64 0, .slice (some ⟨b1, 0, none⟩) 1 1, .slice none 0 0, .int .u8 4, .int .i64 0, .int .u8 0, .int .i64 0, .bool false, .int .i64 0, .int .i64 0, .int .i64 0, .bool false, .int .i64 0, .int .i64 0, .slice (some ⟨b2, 0, none⟩) 1 1, .slice (some ⟨w3.heap.size, 0, none⟩) 1 1, .int .u8 16, .int .i64 0, .int .u8 0, .int .i64 0, .bool false, .int .i64 0, .int .i64 0, .int .i64 0, .bool false, .int .i64 0, .int .i64 0, .slice none 0 0, .slice none 0 0] 81)).alloc (.cells #[.int .i64 1] 3))) : ExCode w3 w4 (.slice (some ⟨w3.heap.size + 1, 0, none⟩) 3 3) (.slice (some ⟨w3.heap.size + 1 + 1, 0, none⟩) 1 1) := by
 obtain ⟨wa, ha⟩ : ∃ wa, wa = w3.alloc (.cells #[.slice (some ⟨b3, 0, none⟩) 1 1] 77) := ⟨_, rfl⟩
 have hsa : wa.heap.size = w3.heap.size + 1 := by rw [ha, World.size_alloc]
 have hva : Bk wa w3.heap.size 77 [.slice (some ⟨b3, 0, none⟩) 1 1] := by rw [ha]; exact Bk.new _ _ _
 have hfa : Fr w3 wa Nil := by rw [ha]; exact (Fr.refl _ _).alloc _
 rw [← ha] at hw
 obtain ⟨wb, hb⟩ : ∃ wb, wb = wa.alloc (.cells #[.int .u8 1, .int .i64 0, .int .u8 5, .int .i64 0, .bool true, .int .i64 0, .int .i64 0, .int .i64 0, .bool false, .int .i64 0, .int .i64 0, .slice (some ⟨b1, 0, none⟩) 1 1, .slice none 0 0, .int .u8 4, .int .i64 0, .int .u8 0, .int .i64 0, .bool false, .int .i64 0, .int .i64 0, .int .i64 0, .bool false, .int .i64 0, .int .i64 0, .slice (some ⟨b2, 0, none⟩) 1 1, .slice (some ⟨w3.heap.size, 0, none⟩) 1 1, .int .u8 16, .int .i64 0, .int .u8 0, .int .i64 0, .bool false, .int .i64 0, .int .i64 0, .int .i64 0, .bool false, .int .i64 0, .int .i64 0, .slice none 0 0, .slice none 0 0] 81) := ⟨_, rfl⟩
 have hsb : wb.heap.size = wa.heap.size + 1 := by rw [hb, World.size_alloc]
 have hvb : SlAt wb 13 (.slice (some ⟨wa.heap.size, 0, none⟩) 3 3) 3 ([.int .u8 1, .int .i64 0, .int .u8 5, .int .i64 0, .bool true, .int .i64 0, .int .i64 0, .int .i64 0, .bool false, .int .i64 0, .int .i64 0, .slice (some ⟨b1, 0, none⟩) 1 1, .slice none 0 0, .int .u8 4, .int .i64 0, .int .u8 0, .int .i64 0, .bool false, .int .i64 0, .int .i64 0, .int .i64 0, .bool false, .int .i64 0, .int .i64 0, .slice (some ⟨b2, 0, none⟩) 1 1, .slice (some ⟨w3.heap.size, 0, none⟩) 1 1, .int .u8 16, .int .i64 0, .int .u8 0, .int .i64 0, .bool false, .int .i64 0, .int .i64 0, .int .i64 0, .bool false, .int .i64 0, .int .i64 0, .slice none 0 0, .slice none 0 0] : List Value) := by
  have h9 := (SlAt.of_own (World.ownsRow_lit (base := 0) (e := 81) (size := 13) wa #[.int .u8 1, .int .i64 0, .int .u8 5, .int .i64 0, .bool true, .int .i64 0, .int .i64 0, .int .i64 0, .bool false, .int .i64 0, .int .i64 0, .slice (some ⟨b1, 0, none⟩) 1 1, .slice none 0 0, .int .u8 4, .int .i64 0, .int .u8 0, .int .i64 0, .bool false, .int .i64 0, .int .i64 0, .int .i64 0, .bool false, .int .i64 0, .int .i64 0, .slice (some ⟨b2, 0, none⟩) 1 1, .slice (some ⟨w3.heap.size, 0, none⟩) 1 1, .int .u8 16, .int .i64 0, .int .u8 0, .int .i64 0, .bool false, .int .i64 0, .int .i64 0, .int .i64 0, .bool false, .int .i64 0, .int .i64 0, .slice none 0 0, .slice none 0 0] 3 (Nat.zero_le _) (by decide) rfl)).1
  rw [← hb] at h9
  simpa using h9
 have hfb : Fr wa wb Nil := by rw [hb]; exact (Fr.refl _ _).alloc _
 rw [← hb] at hw
 have hfc : Fr wb w4 Nil := by rw [hw]; exact (Fr.refl _ _).alloc _
 have hvc : IntsAt w4 (.slice (some ⟨wb.heap.size, 0, none⟩) 1 1) [1] := by rw [hw]; exact intsAt_bk (Bk.new _ _ _) rfl
 have hf := hfa.trans0 (hfb.trans0 hfc)
 rw [show w3.heap.size + 1 + 1 = wb.heap.size by rw [hsb, hsa], show w3.heap.size + 1 = wa.heap.size from hsa.symm]
 have hvs : ValsAt w4 (.slice (some ⟨w3.heap.size, 0, none⟩) 1 1) [[⟨1, 1, 0⟩]] := by
  refine ⟨_, 1, rfl, .inr ⟨_, 0, rfl, fun i t ht => ?_⟩⟩
  match i, ht with
  | 0, ht =>
   cases ht
   exact ⟨_, (hva.fr (hfb.trans0 hfc) fun h => h).cell 0, ht3.fr0 hf⟩
  | i + 1, ht => cases ht
 have nilV : ValsAt w4 (.slice none 0 0) [] := ⟨none, 0, rfl, .inl rfl⟩
 have nilT : TermsAt w4 (.slice none 0 0) [] := SlAt.nil _ _
 obtain ⟨b, off, cap, hv, hc⟩ := flat_form (n := 13) (f := fun p : InstrD × Value × Value => p.1.cs p.2.1 p.2.2) (l := [(⟨1, 0, 5, 0, true, 0, 0, 0, false, 0, 0, [⟨1, 5, 0⟩], []⟩, .slice (some ⟨b1, 0, none⟩) 1 1, .slice none 0 0), (⟨4, 0, 0, 0, false, 0, 0, 0, false, 0, 0, [⟨1, 5, 0⟩], [[⟨1, 1, 0⟩]]⟩, .slice (some ⟨b2, 0, none⟩) 1 1, .slice (some ⟨w3.heap.size, 0, none⟩) 1 1), (⟨16, 0, 0, 0, false, 0, 0, 0, false, 0, 0, [], []⟩, .slice none 0 0, .slice none 0 0)]) (fun _ => rfl) (by decide) (hvb.fr0 hfc) (by simp)
 simp only [Value.slice.injEq, Option.some.injEq, Addr.mk.injEq, and_true] at hv
 obtain ⟨⟨rfl, rfl⟩, _, _⟩ := hv
 refine ⟨⟨_, 3, rfl, .inr ⟨_, 0, rfl, fun i n hn => ?_⟩⟩, (fun a n c e => by cases e; exact Nat.le_refl _), hvc, hf⟩
 rcases exLI_cases hn with ⟨rfl, rfl⟩ | ⟨rfl, rfl⟩ | ⟨rfl, rfl⟩
 ·exact ⟨_, _, hc 0 _ rfl, ht1.fr0 hf, nilV⟩
 ·exact ⟨_, _, hc 1 _ rfl, ht2.fr0 hf, hvs⟩
 ·exact ⟨_, _, hc 2 _ rfl, nilT, nilV⟩
set_option maxRecDepth 100000 in
set_option maxHeartbeats 4000000 in
theorem works_any (w : World) : Calls Tryz.prog 7 #[] w fun e w' => e = .returned (.bool true) ∧ Fr w w' Nil := by
 go_enter Tryz.func7, Tryz.ntmps7
 go_wp2_with fail
 refine (number_any 5 _).mono ?_
 rintro e w1 ⟨b1, rfl, ht1, hf1⟩
 have HT1 := Lib.hid ht1
 have HF1 := Lib.hid hf1
 clear ht1 hf1
 go_wp2_with fail
 refine (number_any 5 _).mono ?_
 rintro e w2 ⟨b2, rfl, ht2, hf2⟩
 have HT2 := Lib.hid ht2
 have HF2 := Lib.hid hf2
 clear ht2 hf2
 go_wp2_with fail
 refine (number_any 1 _).mono ?_
 rintro e w3 ⟨b3, rfl, ht3, hf3⟩
 have HT3 := Lib.hid ht3
 have HF3 := Lib.hid hf3
 clear ht3 hf3
 go_wp2_with fail
 obtain ⟨w4, hw4⟩ : ∃ w4, w4 = (((w3.alloc (.cells #[.slice (some ⟨b3, 0, none⟩) 1 1] 77)).alloc (.cells #[.int .u8 1, .int .i64 0, .int .u8 5, .int .i64 0, .bool true, .int .i64 0, .int .i64 0, .int .i64 0, .bool false, .int .i64 0, .int .i64 0, .slice (some ⟨b1, 0, none⟩) 1 1, .slice none 0 0, .int .u8 4, .int .i64 0, .int .u8 0, .int .i64 0, .bool false, .int .i64 0, .int .i64 0, .int .i64 0, .bool false, .int .i64 0, .int .i64 0, .slice (some ⟨b2, 0, none⟩) 1 1, .slice (some ⟨w3.heap.size, 0, none⟩) 1 1, .int .u8 16, .int .i64 0, .int .u8 0, .int .i64 0, .bool false, .int .i64 0, .int .i64 0, .int .i64 0, .bool false, .int .i64 0, .int .i64 0, .slice none 0 0, .slice none 0 0] 81)).alloc (.cells #[.int .i64 1] 3)) := ⟨_, rfl⟩
 rw [← hw4]
 have HC4 := Lib.hid (ex_code (HT1.out.fr0 (HF2.out.trans0 HF3.out)) (HT2.out.fr0 HF3.out) HT3.out hw4)
 clear hw4
 refine (rnew_st _ _ _ [1] [] 0 exLI w4 HC4.out.1 HC4.out.2.1 HC4.out.2.2.1 (.inl ⟨rfl, rfl⟩) exLI_few (by decide) (by decide)).mono ?_
 rintro e w5 h
 rcases h with ⟨_, _, q, C, rfl, hst, hq, h1, h2, h3, h4, h5, hf5⟩ | ⟨hno, _⟩
 rotate_left
 ·exact absurd ⟨exLI_right, by decide⟩ hno
 obtain ⟨sb, lv, tv, vv, ov, L', TB', at', vars, out⟩ := q
 simp only at h1 h2 h3 h4 h5
 subst h1 h2 h3 h5
 obtain rfl : vars = [] := h4
 have HF4 := Lib.hid ((HF1.out.trans0 (HF2.out.trans0 (HF3.out.trans0 HC4.out.2.2.2))))
 have HL5 : Hid (Lies w w5 [stT ⟨sb, lv, tv, vv, ov, exLI, [1], 0, [], []⟩]) := Lib.hid ((Lies.nil HF4.out).add (stT ⟨sb, lv, tv, vv, ov, exLI, [1], 0, [], []⟩) (S := StV.has _ C) ⟨C, hst, fun _ => Iff.rfl⟩ hq hf5)
 clear hst hq hf5 HC4 HT1 HT2 HT3 HF1 HF2 HF3 HF4
 go_wp2_with fail
 refine (api_new _ [1] _ (intsAt_bk (Bk.new _ _ _) rfl) (by decide)).mono ?_
 rintro e w6 hr
 rcases hr with ⟨_, rb, S, rfl, hr, hS, hf⟩ | ⟨hno, _⟩
 rotate_left
 ·exact absurd (show colsOk [1] from ⟨by decide, by decide⟩) hno
 have HL6 : Hid (Lies w w6 [stT ⟨sb, lv, tv, vv, ov, exLI, [1], 0, [], []⟩, rowsT rb exR0]) := Lib.hid ((HL5.out.fr0 ((Fr.refl _ Nil).alloc _)).add (rowsT rb exR0) (S := S) hr hS hf)
 clear hr hf HL5 hS
 go_wp2_with fail
 refine (st_put (HL6.out.fr0 ((Fr.refl _ Nil).alloc _)) 1 rfl 0 5 _ [7] exR0_ok.1 (intsAt_bk (Bk.new _ _ _) rfl) (by decide)).mono ?_
 rintro e w7 ⟨rfl, h⟩
 have HL7 : Hid (Lies w w7 [stT ⟨sb, lv, tv, vv, ov, exLI, [1], 0, [], []⟩, rowsT rb exR1]) := h
 clear h HL6
 go_wp2_with fail
 refine (st_new HL7.out 9).mono ?_
 rintro e w8 ⟨ub, rfl, h⟩
 have HL8 : Hid (Lies w w8 [stT ⟨sb, lv, tv, vv, ov, exLI, [1], 0, [], []⟩, rowsT rb exR1, logT ub 9 []]) := h
 clear h HL7
 go_wp2_with fail
 refine (step_any HL8.out 0 1 2 rfl rfl rfl (by decide) (by decide) (by decide) 0 (ex_F (by decide)) _ rfl exR1_ok.1 rfl 1 (by decide) (by decide) (Nat.zero_le _)).mono ?_
 rintro e w9 ⟨he, ov2, h⟩
 simp only [ex_step1] at he h
 subst he
 have HL9 : Hid (Lies w w9 [stT ⟨sb, lv, tv, vv, ov2, exLI, [1], 0, [], []⟩, rowsT rb exR1, logT ub 9 []]) := h
 clear h HL8
 go_wp2_with fail
 have HLA : Hid (Lies w (w9.alloc (.cells #[.int .u8 2, .int .i64 0, .bool true, .int .i64 5, .int .u8 5, .bool false, .bool false] 50)) [stT ⟨sb, lv, tv, vv, ov2, exLI, [1], 0, [], []⟩, rowsT rb exR1, logT ub 9 [], bkT w9.heap.size 50 (#[.int .u8 2, .int .i64 0, .bool true, .int .i64 5, .int .u8 5, .bool false, .bool false] : Array Value).toList]) := Lib.hid (HL9.out.newBk _ _)
 refine (go_any (nv := 0) HLA.out 0 rfl (ex_F (by decide)) rfl).mono ?_
 rintro e w10 ⟨he, h⟩
 have he' : e = .returned (.int .i64 0) := he
 subst he'
 have HL10 : Hid (Lies w w10 [stT ⟨sb, lv, tv, vv, ov2, exLI, [1], 1, [], []⟩, rowsT rb exR1, logT ub 9 [], bkT w9.heap.size 50 (#[.int .u8 2, .int .i64 0, .bool true, .int .i64 5, .int .u8 5, .bool false, .bool false] : Array Value).toList]) := h
 clear h HL9 HLA he
 go_wp2_with fail
 refine (step_any HL10.out 0 1 2 rfl rfl rfl (by decide) (by decide) (by decide) 0 (ex_F (by decide)) _ rfl exR1_ok.1 rfl 1 (by decide) (by decide) (Nat.zero_le _)).mono ?_
 rintro e w11 ⟨he, ov3, h⟩
 simp only [ex_step2] at he h
 subst he
 have HL11 : Hid (Lies w w11 [stT ⟨sb, lv, tv, vv, ov3, exLI, [1], 2, [], []⟩, rowsT rb exR2, logT ub 9 [(1, (0, 5, some [7]))], bkT w9.heap.size 50 (#[.int .u8 2, .int .i64 0, .bool true, .int .i64 5, .int .u8 5, .bool false, .bool false] : Array Value).toList]) := h
 clear h HL10
 go_wp2_with fail
 have HLB : Hid (Lies w (w11.alloc (.cells #[.int .u8 1, .int .i64 0, .bool true, .int .i64 5, .int .u8 0, .bool true, .bool true] 50)) [stT ⟨sb, lv, tv, vv, ov3, exLI, [1], 2, [], []⟩, rowsT rb exR2, logT ub 9 [(1, (0, 5, some [7]))], bkT w9.heap.size 50 (#[.int .u8 2, .int .i64 0, .bool true, .int .i64 5, .int .u8 5, .bool false, .bool false] : Array Value).toList, bkT w11.heap.size 50 (#[.int .u8 1, .int .i64 0, .bool true, .int .i64 5, .int .u8 0, .bool true, .bool true] : Array Value).toList]) := Lib.hid (HL11.out.newBk _ _)
 refine (step_any HLB.out 0 1 2 rfl rfl rfl (by decide) (by decide) (by decide) 0 (ex_F (by decide)) _ rfl exR2_ok.1 rfl 1 (by decide) (by decide) (Nat.zero_le _)).mono ?_
 rintro e w12 ⟨he, ov4, h⟩
 simp only [ex_step3] at he h
 subst he
 have HL12 : Hid (Lies w w12 [stT ⟨sb, lv, tv, vv, ov4, exLI, [1], 2, [], []⟩, rowsT rb exR2, logT ub 9 [(1, (0, 5, some [7]))], bkT w9.heap.size 50 (#[.int .u8 2, .int .i64 0, .bool true, .int .i64 5, .int .u8 5, .bool false, .bool false] : Array Value).toList, bkT w11.heap.size 50 (#[.int .u8 1, .int .i64 0, .bool true, .int .i64 5, .int .u8 0, .bool true, .bool true] : Array Value).toList]) := h
 clear h HL11 HLB
 have HLC : Hid (Lies w (w12.alloc (.cells #[.int .u8 6, .int .i64 0, .bool false, .int .i64 0, .int .u8 0, .bool false, .bool false] 50)) [stT ⟨sb, lv, tv, vv, ov4, exLI, [1], 2, [], []⟩, rowsT rb exR2, logT ub 9 [(1, (0, 5, some [7]))], bkT w9.heap.size 50 (#[.int .u8 2, .int .i64 0, .bool true, .int .i64 5, .int .u8 5, .bool false, .bool false] : Array Value).toList, bkT w11.heap.size 50 (#[.int .u8 1, .int .i64 0, .bool true, .int .i64 5, .int .u8 0, .bool true, .bool true] : Array Value).toList, bkT w12.heap.size 50 (#[.int .u8 6, .int .i64 0, .bool false, .int .i64 0, .int .u8 0, .bool false, .bool false] : Array Value).toList]) := Lib.hid (HL12.out.newBk _ _)
 have a0 := (HLC.out.bk 3 rfl).cell 0
 have a1 := (HLC.out.bk 3 rfl).cell 1
 have a2 := (HLC.out.bk 3 rfl).cell 2
 have a3 := (HLC.out.bk 3 rfl).cell 3
 have a4 := (HLC.out.bk 3 rfl).cell 4
 have b0 := (HLC.out.bk 4 rfl).cell 0
 have b5 := (HLC.out.bk 4 rfl).cell 5
 have b6 := (HLC.out.bk 4 rfl).cell 6
 have c0 := (HLC.out.bk 5 rfl).cell 0
 simp only [List.getElem?_cons_zero, List.getElem?_cons_succ] at a0 a1 a2 a3 a4 b0 b5 b6 c0
 go_wp2_with fail
 refine (st_sum HLC.out 1 rfl 0 0 exR2_ok.1).mono ?_
 rintro e w13 ⟨he, h⟩
 rw [ex_sum] at he
 subst he
 have HL13 := Lib.hid h
 clear h HLC a0 a1 a2 a3 a4 b0 b5 b6 c0
 go_wp2_with fail
 refine (st_ulen HL13.out 2 rfl 1 (by decide)).mono ?_
 rintro e w14 ⟨he, h⟩
 rw [ex_of] at he
 subst he
 have HL14 := Lib.hid h
 clear h HL13
 go_wp2_with fail
 refine (at_any _ _ (HL14.out.stR 0 rfl)).mono ?_
 rintro e w15 ⟨rfl, rfl⟩
 go_wp2_with fail
 go_ret
 exact ⟨rfl, HL14.out.fr⟩
end Go.Proofs.YtgpekgnhbccnoaaGreat
