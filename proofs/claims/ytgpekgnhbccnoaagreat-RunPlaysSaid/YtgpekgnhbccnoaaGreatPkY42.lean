/-
 Walk of the document's Step.
 No condition but sizes.
 Walk of the document's Step.
 No condition but sizes.
 Walk of the document's Step.
 No condition but sizes.
 Walk of the document's Step.
 No condition but sizes.
 Walk of the document's Step.
 No condition but sizes.
 Walk of the document's New of a state.
 No condition but sizes.
-/
import Derived.Test.YtgpekgnhbccnoaaGreatPkY41
import Derived.Deep.CutBlock
import Derived.Test.YtgpekgnhbccnoaaGreatPkY40
import Derived.Test.YtgpekgnhbccnoaaGreatPkY23
namespace Go.Proofs.YtgpekgnhbccnoaaGreat
open Go Go.RowKit
attribute [local go_sem ↓] Go.wp_at_zero Go.wp_at_succ
section
variable {w0 W : World} {l : List Thing} {q : DStV} {M : List MTab} {qb vb : Nat} {most : Int} {lg : List (Int × Ent)}
set_option maxRecDepth 100000 in
set_option maxHeartbeats 16000000 in
theorem dstep_a (h : Lies w0 W l) (i j k : Nat) (hi : l[i]? = some (dstT q)) (hj : l[j]? = some (refM qb M)) (hk : l[k]? = some (dlogT vb most lg)) (hij : i ≠ j) (hik : i ≠ k) (hjk : j ≠ k) (TB : List Int) (nv : Nat) (hf : DStF q TB nv) (n : InstrD) (hn : q.L[q.at']? = some n) (hg : Good M) {N : Nat} (hfe : Few N M) (hN : N < 1000) (hc : colsN M = TB) (who : Int) (hll : lg.length ≤ 100000) (hol : q.out.length ≤ 100000) (h100 : q.L.length ≤ 100000) (hgr : n.op = 3 ∨ n.op = 4 ∨ n.op = 5 ∨ n.op = 6) :
  Calls Tryz.prog 22 #[.pointer (some ⟨q.sb, 0, none⟩), .int .i64 who, rptr qb, rptr vb] W (DStepRet w0 l i j k q qb vb most (stepM q.L most who ⟨q.at', q.vars, q.out, M, lg⟩)) := by
 have hall := And.intro hij (And.intro hik (And.intro hjk (And.intro hN (And.intro hll (And.intro hol h100)))))
 clear hall
 obtain ⟨iI, hiI, hsI⟩ := info_size Tryz.infoDI
 have hLl := hf.few.1
 have hat := hf.at'
 have hil := (List.getElem?_eq_some_iff.1 hi).1
 have hjl := (List.getElem?_eq_some_iff.1 hj).1
 have hkl := (List.getElem?_eq_some_iff.1 hk).1
 have HGN : Hid (q.L.getD q.at' default = n) := Lib.hid (by rw [List.getD_eq_getElem?_getD, hn]; rfl)
 obtain ⟨r, hr⟩ : ∃ r, r = stepM q.L most who ⟨q.at', q.vars, q.out, M, lg⟩ := ⟨_, rfl⟩
 rw [← hr]
 have HR := Lib.hid hr
 obtain ⟨w1, hw1⟩ : ∃ w1, w1 = W.alloc (.cells wantZ 52) := ⟨_, rfl⟩
 obtain ⟨b8, hb8⟩ : ∃ b8, b8 = W.heap.size := ⟨_, rfl⟩
 have HL1 : Hid (Lies w0 w1 (l ++ [bkT b8 52 wantZ.toList])) := by rw [hw1, hb8]; exact Lib.hid (h.newBk _ _)
 have HI1 : Hid ((l ++ [bkT b8 52 wantZ.toList])[i]? = some (dstT q)) := Lib.hid (by rw [List.getElem?_append_left hil]; exact hi)
 have HW1 := Lib.hid hw1
 have HB8 := Lib.hid hb8
 have HI := Lib.hid hi
 have HJ := Lib.hid hj
 have HK := Lib.hid hk
 have HF := Lib.hid hf
 have HN := Lib.hid hn
 have HG := Lib.hid hg
 have HFE := Lib.hid hfe
 have HC := Lib.hid hc
 obtain ⟨x, hx⟩ : ∃ x, x = nextP n q.vars := ⟨_, rfl⟩
 have HX := Lib.hid hx
 have HNX := Lib.hid (dnext_any q TB nv n w1 (HL1.out.dstR i HI1.out) hf hn)
 rw [← hx] at HNX
 clear h hi hj hk hf hn hg hfe hc hw1 hb8 hr hx
 obtain ⟨wk, wt, wr, wy, wm, wto, wwr⟩ := x
 simp only [WantD.val] at HNX
 go_enter Tryz.func22, Tryz.ntmps22
 go_wp2_with fail
 rw [← HW1.out, ← HB8.out]
 refine HNX.out.mono ?_
 rintro e w2 ⟨he, hf2⟩
 subst he
 have HL2 := Lib.hid (HL1.out.fr0 hf2)
 clear hf2 HNX
 go_upto_region 2 with (fail)
 obtain ⟨bw, hbw⟩ : ∃ bw, bw = w2.heap.size := ⟨_, rfl⟩
 obtain ⟨w3, hw3⟩ : ∃ w3, w3 = w2.alloc (.cells #[.int .u8 wk, .int .i64 wt, .bool wr, .int .i64 wy, .int .u8 wm, .bool wto, .bool wwr] 52) := ⟨_, rfl⟩
 have HBW : Hid (Bk w3 bw 52 [.int .u8 wk, .int .i64 wt, .bool wr, .int .i64 wy, .int .u8 wm, .bool wto, .bool wwr]) := by rw [hw3, hbw]; exact Lib.hid (Bk.new w2 _ _)
 have HF3 : Hid (Fr w2 w3 Nil) := by rw [hw3]; exact Lib.hid ((Fr.refl w2 Nil).alloc _)
 have HBS := Lib.hid hbw
 rw [← hw3, ← hbw]
 clear hw3 hbw
 have HL3 := Lib.hid (HL2.out.fr0 HF3.out)
 have HOK : Hid (IOk TB nv q.L.length n) := Lib.hid (HF.out.ok.all _ _ HN.out)
 have hk1 : wk = 1 := by
  have h9 := (nextP_kind q.vars HOK.out.lo HOK.out.hi).2 (by omega)
  rw [← HX.out] at h9
  exact h9
 subst hk1
 have b0 := (HL3.out.dstR i HI1.out).box.cell 0
 have b1 := (HL3.out.dstR i HI1.out).box.cell 1
 simp only [DStV.cs, List.getElem?_cons_zero, List.getElem?_cons_succ] at b0 b1
 obtain ⟨b, off, cap, hlv, hlc⟩ := (HL3.out.dstR i HI1.out).code.form (by omega)
 have HLV := Lib.hid hlv
 rw [hlv] at b0
 obtain ⟨ka, kc, va, vc, hkt, hvt, p0, p1, p2, p3, p4, p5, p6, p7, p8, p9, p10, p11, p12⟩ := (hlc q.at' n HN.out).cell
 have HKT := Lib.hid hkt
 have HVT := Lib.hid hvt
 have HP11 := Lib.hid p11
 have HP12 := Lib.hid p12
 have k0 := KeptF.cell b0
 have k1 := KeptF.cell b1
 have j0 := KeptF.cell p0
 have j1 := KeptF.cell p1
 have j2 := KeptF.cell p2
 have j3 := KeptF.cell p3
 have j4 := KeptF.cell p4
 have j5 := KeptF.cell p5
 have j6 := KeptF.cell p6
 have j7 := KeptF.cell p7
 have j8 := KeptF.cell p8
 have j9 := KeptF.cell p9
 have j10 := KeptF.cell p10
 have j11 := KeptF.cell p11
 have j12 := KeptF.cell p12
 clear hlc hlv hkt hvt b0 b1 p0 p1 p2 p3 p4 p5 p6 p7 p8 p9 p10 p11 p12
 obtain ⟨op, node, mode, tab, row, col, var, dst, eq, fro, upto, key, vals⟩ := n
 simp only at HKT HVT HP11 HP12 hgr j0 j1 j2 j3 j4 j5 j6 j7 j8 j9 j10 j11 j12
 have w0c : w3.cell? ⟨bw, 0, none⟩ = some _ := HBW.out.cell 0
 go_wp2_with fail
 clear w0c
 refine wp_region_sink 11 (KeptF w3) (by kernel_rfl) ?_
 have hS0 : KeptF w3 w3.drew := KeptF.start _
 refine tk 0 hS0 ?_
 refine tk 1 hS0 ?_
 refine tk 2 hS0 ?_
 try simp only [Act.put, sA, sB, sC]
 refine tk 3 hS0 ?_ (hy := by intro _ w; have ck0 := k0 _ w; go_simp <;> with_reducible rfl)
 try simp only [Act.put, sA, sB, sC]
 refine tk 4 hS0 ?_
 refine tk 5 hS0 ?_
 refine tk 6 hS0 ?_
 try simp only [Act.put, sA, sB, sC]
 refine tk 7 hS0 ?_ (hy := by intro _ w; have ck1 := k1 _ w; go_simp <;> with_reducible rfl)
 try simp only [Act.put, sA, sB, sC]
 refine tk 8 hS0 ?_
 try simp only [Act.put, sA, sB, sC]
 refine tk 9 hS0 ?_ (hy := by intro _ w; have cj0 := j0 _ w; have cj1 := j1 _ w; have cj2 := j2 _ w; have cj3 := j3 _ w; have cj4 := j4 _ w; have cj5 := j5 _ w; have cj6 := j6 _ w; have cj7 := j7 _ w; have cj8 := j8 _ w; have cj9 := j9 _ w; have cj10 := j10 _ w; have cj11 := j11 _ w; have cj12 := j12 _ w; go_simp <;> with_reducible rfl)
 try simp only [Act.put, sA, sB, sC]
 refine on1 10 fun K hK => ?_
 go_simp
 have hS1 := KeptF.next hS0 ((Fr.refl _ Nil).alloc (.cells #[.int .u8 0, .int .i64 0, .int .u8 0, .int .i64 0, .bool false, .int .i64 0, .int .i64 0, .int .i64 0, .bool false, .int .i64 0, .int .i64 0, .slice none 0 0, .slice none 0 0] 97))
 refine hK.out _ _ hS1 ?_
 clear hK K
 try simp only [Act.put, sA, sB, sC]
 refine wpAnyS_last (i := 11) rfl (by kernel_rfl) (by decide) (by kernel_rfl) (by rfl) fun K hK => ?_
 refine wp_store_bk 97 _ _ rfl _ _ _ [.int .u8 op, .int .i64 node, .int .u8 mode, .int .i64 tab, .bool row, .int .i64 col, .int .i64 var, .int .i64 dst, .bool eq, .int .i64 fro, .int .i64 upto, .slice ka key.length kc, .slice va vals.length vc] _ rfl rfl rfl iI hiI hsI (Bk.new w3.drew 97 #[.int .u8 0, .int .i64 0, .int .u8 0, .int .i64 0, .bool false, .int .i64 0, .int .i64 0, .int .i64 0, .bool false, .int .i64 0, .int .i64 0, .slice none 0 0, .slice none 0 0]) rfl (by simp [Value.oneCell']) ?_
 intro w4 hb4 hf4
 refine hK.out _ _ ?_
 clear hK K
 have HF4 : Hid (Fr w3 w4 Nil) := Lib.hid (KeptF.fr (KeptF.store hS1 hf4 (Nat.le_refl _)))
 obtain ⟨bn, hbn⟩ : ∃ bn, bn = w3.heap.size := ⟨_, rfl⟩
 have HBN := Lib.hid (show bn = w3.heap.size from hbn)
 rw [← hbn] at hb4 ⊢
 have HB4 := Lib.hid hb4
 clear hb4 hf4 hS0 hS1 k0 k1 hbn j0 j1 j2 j3 j4 j5 j6 j7 j8 j9 j10 j11 j12
 obtain ⟨l2, hl2⟩ : ∃ l2, l2 = l ++ [bkT b8 52 wantZ.toList, pairT bw bn 52 97 [.int .u8 1, .int .i64 wt, .bool wr, .int .i64 wy, .int .u8 wm, .bool wto, .bool wwr] [.int .u8 op, .int .i64 node, .int .u8 mode, .int .i64 tab, .bool row, .int .i64 col, .int .i64 var, .int .i64 dst, .bool eq, .int .i64 fro, .int .i64 upto, .slice ka key.length kc, .slice va vals.length vc]] := ⟨_, rfl⟩
 have HL2E := Lib.hid hl2
 have il : i < l2.length := by rw [hl2, List.length_append]; omega
 have jl : j < l2.length := by rw [hl2, List.length_append]; omega
 have kl : k < l2.length := by rw [hl2, List.length_append]; omega
 have HGB : Hid (l2[l.length]? = some (bkT b8 52 wantZ.toList)) := Lib.hid (by rw [hl2]; simp)
 have HGP : Hid (l2[l.length + 1]? = some (pairT bw bn 52 97 [.int .u8 1, .int .i64 wt, .bool wr, .int .i64 wy, .int .u8 wm, .bool wto, .bool wwr] [.int .u8 op, .int .i64 node, .int .u8 mode, .int .i64 tab, .bool row, .int .i64 col, .int .i64 var, .int .i64 dst, .bool eq, .int .i64 fro, .int .i64 upto, .slice ka key.length kc, .slice va vals.length vc])) := Lib.hid (by rw [hl2, List.getElem?_append_right (by omega), Nat.add_sub_cancel_left]; rfl)
 have HLx : Hid (Lies w0 w4 (L3 l2 i j k (dstT q) (refM qb M) (dlogT vb most lg))) := by
  have e1 : l2[i]? = some (dstT q) := by rw [hl2, List.getElem?_append_left hil]; exact HI.out
  have e2 : l2[j]? = some (refM qb M) := by rw [hl2, List.getElem?_append_left hjl]; exact HJ.out
  have e3 : l2[k]? = some (dlogT vb most lg) := by rw [hl2, List.getElem?_append_left hkl]; exact HK.out
  rw [L3.self e1 e2 e3, hl2]
  have h9 := HL2.out.add (pairT bw bn 52 97 [.int .u8 1, .int .i64 wt, .bool wr, .int .i64 wy, .int .u8 wm, .bool wto, .bool wwr] [.int .u8 op, .int .i64 node, .int .u8 mode, .int .i64 tab, .bool row, .int .i64 col, .int .i64 var, .int .i64 dst, .bool eq, .int .i64 fro, .int .i64 upto, .slice ka key.length kc, .slice va vals.length vc]) (W' := w4) (S := fun k => k = bw ∨ k = bn) ⟨⟨HBW.out.fr HF4.out fun h => h, HB4.out⟩, fun _ => Iff.rfl⟩ (fun k hk => hk.elim (fun e => by rw [e, HBS.out]; exact Nat.le_refl _) fun e => by rw [e, HBN.out]; exact HF3.out.size) (HF3.out.trans0 HF4.out)
  rw [List.append_assoc] at h9
  exact Lib.hid h9
 have HKTx := Lib.hid (HKT.out.fr0 HF4.out)
 have HVTx := Lib.hid (HVT.out.fr0 HF4.out)
 have HP11x := Lib.hid (HF4.out.cell HP11.out fun h => h)
 have HP12x := Lib.hid (HF4.out.cell HP12.out fun h => h)
 clear HB4 hl2 HKT HVT HP11 HP12 HL1 HL2 HL3 HBN HBS HF3 HBW
 have HPW : Hid (∀ (w : World) (x y z : Thing), Lies w0 w (L3 l2 i j k x y z) → Bk w bw 52 [.int .u8 1, .int .i64 wt, .bool wr, .int .i64 wy, .int .u8 wm, .bool wto, .bool wwr] ∧ Bk w bn 97 [.int .u8 op, .int .i64 node, .int .u8 mode, .int .i64 tab, .bool row, .int .i64 col, .int .i64 var, .int .i64 dst, .bool eq, .int .i64 fro, .int .i64 upto, .slice ka key.length kc, .slice va vals.length vc]) := Lib.hid (fun w x y z h => h.pair (l.length + 1) (by rw [L3.get (by omega) (by omega) (by omega)]; exact HGP.out))
 have HPB : Hid (∀ (w : World) (x y z : Thing), Lies w0 w (L3 l2 i j k x y z) → Bk w b8 52 wantZ.toList) := Lib.hid (fun w x y z h => h.bk l.length (by rw [L3.get (by omega) (by omega) (by omega)]; exact HGB.out))
 have hfew := HF.out.few.2 _ (List.mem_of_getElem? HN.out)
 have hkl2 := hfew.1
 have HFT := Lib.hid hfew.2
 simp only at hkl2 HFT
 clear hfew
 have y11 := (HPW.out _ _ _ _ HLx.out).2.cell 11
 simp only [List.getElem?_cons_zero, List.getElem?_cons_succ] at y11
 go_wp2_with fail
 refine (dvalue_any q _ key w4 (HLx.out.dstR i (L3.geti hij hik il)) HKTx.out hkl2 (by rw [HF.out.len]; have := HF.out.le; omega)).mono ?_
 rintro e w5 ⟨he, hf5⟩
 obtain ⟨ky, hky⟩ : ∃ ky, ky = valP q.vars key := ⟨_, rfl⟩
 rw [← hky] at he
 subst he
 have HKY := Lib.hid hky
 have HLy := Lib.hid (HLx.out.fr0 hf5)
 have HKTy := Lib.hid (HKTx.out.fr0 hf5)
 have HVTy := Lib.hid (HVTx.out.fr0 hf5)
 have HP11y := Lib.hid (hf5.cell HP11x.out fun h => h)
 have HP12y := Lib.hid (hf5.cell HP12x.out fun h => h)
 clear hky hf5 y11 HLx HKTx HVTx HP11x HP12x HF4
 have x6 := (HPW.out _ _ _ _ HLy.out).1.cell 6
 simp only [List.getElem?_cons_zero, List.getElem?_cons_succ] at x6
 have y3 := (HPW.out _ _ _ _ HLy.out).2.cell 3
 simp only [List.getElem?_cons_zero, List.getElem?_cons_succ] at y3
 go_upto_if 39 with (fail)
 go_cut [13] from 40 to 50 (fun v13 wx => ∃ lg2, lg2.length ≤ lg.length + 1 ∧ r = (⟨1, wt, wr, wy, wm, wto, wwr⟩, 0, wentP ⟨op, node, mode, tab, row, col, var, dst, eq, fro, upto, key, vals⟩ ⟨q.at', q.vars, q.out, M, lg⟩ lg2) ∧ Lies w0 wx (L3 l2 i j k (dstT q) (refM qb M) (dlogT vb most lg2)) ∧ TermsAt wx (.slice ka key.length kc) key ∧ ValsAt wx (.slice va vals.length vc) vals)
 case first =>
  cases hwwr : wwr
  ·subst hwwr
   go_wp2_with fail
   go_meet
   exact ⟨lg, by omega, by rw [HR.out]; exact stepM_went HGN.out HX.out rfl rfl, HLy.out, HKTy.out, HVTy.out⟩
  ·subst hwwr
   have hwy : wy = ky := by
    have h9 := congrArg WantD.key HX.out
    have h8 := (nextP_wrote q.vars).1 (by rw [← HX.out])
    rw [nextP_key q.vars h8] at h9
    rw [HKY.out]
    exact h9
   subst hwy
   go_wp2_with fail
   refine (st_dnoteK HLy.out k j (L3.getk kl) (L3.getj hjk jl) i (L3.geti hij hik il) (Ne.symm hik) who tab wy HG.out HFE.out hN hll).mono ?_
   rintro e w6 ⟨he, hl4, C, T, hc1, hc2, hc3⟩
   have hkeep := hc1.keepI hc2 hc3 HLV.out HN.out HP11y.out HP12y.out
   rw [L3.setk] at hl4
   have HK4 := Lib.hid hkeep
   have HL4 := Lib.hid hl4
   rw [noteD_is] at he
   clear hc1 hc2 hc3 hkeep hl4 x6 y3
   by_cases h0 : noteE M most lg tab = 0
   ·have HR4 : Hid (r = (⟨1, wt, wr, wy, wm, wto, true⟩, 0, wentP ⟨op, node, mode, tab, row, col, var, dst, eq, fro, upto, key, vals⟩ ⟨q.at', q.vars, q.out, M, lg⟩ (noteL M most lg who tab wy))) := Lib.hid (by rw [HR.out]; exact stepM_note HGN.out HX.out rfl rfl h0)
    rw [h0] at he
    have he2 : e = .returned (.int .i64 0) := he
    subst he2
    have HLN := Lib.hid (noteL_len M most lg who tab wy)
    clear h0 he
    go_wp2_with fail
    go_meet
    exact ⟨_, HLN.out, HR4.out, HL4.out, HK4.out.1, HK4.out.2⟩
   ·have HR4 : Hid (r = (WantD.zero, noteE M most lg tab, ⟨q.at', q.vars, q.out, M, lg⟩)) := Lib.hid (by rw [HR.out]; exact stepM_full (s := ⟨q.at', q.vars, q.out, M, lg⟩) HGN.out HX.out rfl rfl h0)
    have HLE : Hid (noteL M most lg who tab wy = lg) := Lib.hid (by unfold noteL; rw [if_neg h0])
    rw [HLE.out] at HL4
    have h00 := errD_ne (noteE_ne h0)
    generalize noteE M most lg tab = ne at he h0 HR4 h00
    obtain ⟨nd, hnd⟩ : ∃ nd, nd = errD ne := ⟨_, rfl⟩
    rw [← hnd] at he h00
    have HND := Lib.hid hnd
    have d0 : (nd != 0) = true := by rw [bne_iff_ne]; exact h00
    subst he
    have z0 : w6.cell? ⟨b8, 0, none⟩ = some (.int .u8 0) := (HPB.out _ _ _ _ HL4.out).cell 0
    have z1 : w6.cell? ⟨b8, 1, none⟩ = some (.int .i64 0) := (HPB.out _ _ _ _ HL4.out).cell 1
    have z2 : w6.cell? ⟨b8, 2, none⟩ = some (.bool false) := (HPB.out _ _ _ _ HL4.out).cell 2
    have z3 : w6.cell? ⟨b8, 3, none⟩ = some (.int .i64 0) := (HPB.out _ _ _ _ HL4.out).cell 3
    have z4 : w6.cell? ⟨b8, 4, none⟩ = some (.int .u8 0) := (HPB.out _ _ _ _ HL4.out).cell 4
    have z5 : w6.cell? ⟨b8, 5, none⟩ = some (.bool false) := (HPB.out _ _ _ _ HL4.out).cell 5
    have z6 : w6.cell? ⟨b8, 6, none⟩ = some (.bool false) := (HPB.out _ _ _ _ HL4.out).cell 6
    have s8 := (HPB.out _ _ _ _ HL4.out).free
    clear h0 h00 hnd
    go_wp2_with fail
    refine set7_world (HPB.out _ _ _ _ HL4.out) ?_
    intro w9 hb9 hf9
    have HLF := Lib.hid (step_fin (by rw [← HL2E.out]; exact HL4.out) hil hjl hkl (by rw [← HL2E.out]; exact HGB.out) hb9 hf9)
    have t0 := hb9.cell 0
    have t1 := hb9.cell 1
    have t2 := hb9.cell 2
    have t3 := hb9.cell 3
    have t4 := hb9.cell 4
    have t5 := hb9.cell 5
    have t6 := hb9.cell 6
    simp only [List.getElem?_cons_zero, List.getElem?_cons_succ] at t0 t1 t2 t3 t4 t5 t6
    clear hb9 hf9 s8 z0 z1 z2 z3 z4 z5 z6
    go_wp2_with fail
    exact bodyPost_ret (v := .tuple #[WantD.zero.val, .int .i64 nd]) (by simp [results, Tryz.results22, go_sem, t0, t1, t2, t3, t4, t5, t6, WantD.zero]; try rfl) rfl ⟨by rw [HR4.out, HND.out], q.ov, by rw [HR4.out]; exact HLF.out⟩
 case rest =>
  obtain ⟨lg2, hlg2, hr2, hl5, hk5, hv5⟩ := hcut
  have HR5 := Lib.hid hr2
  have HL5 := Lib.hid hl5
  have HV5 := Lib.hid hv5
  clear hr2 hl5 hk5 hv5 x6 y3 HLy HKTy HVTy HP11y HP12y
  have y0 : wc.cell? ⟨bn, 0, none⟩ = some _ := (HPW.out _ _ _ _ HL5.out).2.cell 0
  go_upto_block 0 with (fail)
  clear y0
  go_cut [14, 15, 16, 17] from 53 to 176 (fun v14 v15 v16 v17 wx => DoneR w0 l2 i j k q qb M (dlogT vb most lg2) ⟨op, node, mode, tab, row, col, var, dst, eq, fro, upto, key, vals⟩ wx ∧ ((10 : Int) ≤ op → ValsAt wx (.slice va vals.length vc) vals))
  case first =>
   rcases hgr with rfl | rfl | rfl | rfl
   ·have hv0 := HOK.out.var (.inl rfl)
    simp only at hv0
    obtain ⟨m, rfl⟩ : ∃ m : Nat, var = (m : Int) := ⟨var.toNat, by omega⟩
    have hm : m < q.vars.length := by rw [HF.out.len]; omega
    clear hv0
    have hc0 := HOK.out.col (.inl rfl)
    simp only at hc0
    have ht0 := HOK.out.tab (show (3 : Int) ≤ 7 by decide)
    simp only at ht0
    have y3 : wc.cell? ⟨bn, 3, none⟩ = some _ := (HPW.out _ _ _ _ HL5.out).2.cell 3
    go_wp2_with fail
    refine (st_qget HL5.out j (L3.getj hjk jl) tab ky HG.out HFE.out hN).mono ?_
    rintro e w3 hr
    clear y3
    rcases hr with ⟨xs, hx, a, cap0, rfl, hcl⟩ | ⟨hx, rfl, hf3⟩
    ·obtain ⟨hcol1, hxl⟩ : col < (xs.length : Int) ∧ xs.length ≤ 100000 := by
      have hm9 := (HG.out.at tab).width (ky, xs) (mget_mem hx)
      have hle := (HG.out.at tab).le
      have h9 := mtab_col HC.out ht0.1 (by rw [← colsN_len, HC.out]; exact ht0.2)
      simp only at hm9
      omega
     have HX3 := Lib.hid hx
     obtain ⟨ho, hnew, hf3⟩ := hcl
     have HO := Lib.hid ho
     have HNEW := Lib.hid hnew
     have HL3 := Lib.hid (HL5.out.fr0 hf3)
     clear hx ho hnew hf3 ht0
     obtain ⟨cm, rfl⟩ : ∃ cm : Nat, col = (cm : Int) := ⟨col.toNat, by omega⟩
     have hcm : cm < xs.length := by omega
     go_wp2_with fail
     obtain ⟨vvb, vcap, ev, c3, d4, d5, d6⟩ := HL3.out.dbox i (L3.geti hij hik il) m hm
     have hvlt := (HL5.out.dst i (L3.geti hij hik il)).2.1.lt vvb (by show q.vv.ownBlock = _; rw [ev]; rfl)
     have HVLT := Lib.hid hvlt
     have k20 := KeptF.cell c3
     have k6 := KeptF.cell (w0 := w3) (show w3.cell? ⟨bn, 6, none⟩ = some _ from (HPW.out _ _ _ _ HL3.out).2.cell 6)
     clear c3 ev hvlt
     refine wp_region_sink 7 (KeptF w3) (by kernel_rfl) ?_
     have hSa : KeptF w3 w3.drew := KeptF.start _
     refine tk 0 hSa ?_
     refine tk 1 hSa ?_
     refine tk 2 hSa ?_
     try simp only [Act.put, sA, sB, sC]
     refine tk 3 hSa ?_ (hy := by intro _ w; have ck20 := k20 _ w; go_simp <;> with_reducible rfl)
     try simp only [Act.put, sA, sB, sC]
     refine tk 4 hSa ?_
     try simp only [Act.put, sA, sB, sC]
     refine tk 5 hSa ?_ (hy := by intro _ w; have ck6 := k6 _ w; go_simp <;> with_reducible rfl)
     try simp only [Act.put, sA, sB, sC]
     refine tk 6 hSa ?_
     try simp only [Act.put, sA, sB, sC]
     refine wpAnyS_last (i := 7) rfl (by kernel_rfl) (by decide) (by kernel_rfl) (by rfl) fun K hK => ?_
     go_simp
     refine hK.out _ _ ?_
     clear hK K d4 d5 hSa k20 k6
     have D6 := (d6 0).fr0 ((Fr.refl _ Nil).drew)
     rw [L3.seti hij hik] at D6
     obtain ⟨wz, hwz⟩ : ∃ wz, wz = (w3.setCell ⟨vvb, m, none⟩ (.int .i64 0)).drew := ⟨_, rfl⟩
     have HFZ : Hid (Fr w3 wz (fun k => k = vvb)) := by rw [hwz]; exact Lib.hid (Fr.store _ _ _ _).drew
     rw [← hwz] at D6 ⊢
     have HLz := Lib.hid D6
     clear D6 d6 hwz
     have ho2 := HO.out.fr HFZ.out (fun q hq e => by have := HNEW.out q hq; have := HVLT.out; omega)
     obtain ⟨g, gcap, eg, _⟩ := ho2.form (by omega)
     simp only [Value.slice.injEq, true_and] at eg
     obtain ⟨rfl, rfl⟩ := eg
     obtain ⟨y, hy⟩ : ∃ y, y = xs.getD cm 0 := ⟨_, rfl⟩
     have hx0 := ho2.cell rfl cm hcm
     rw [← hy] at hx0
     have HY := Lib.hid hy
     have x0 := KeptF.cell hx0
     obtain ⟨vb2, vcap2, e2, g3, g4, g5, g6⟩ := HLz.out.dbox i (L3.geti hij hik il) m (by simpa using hm)
     have hvl2 : (q.vars.set m 0).length = q.vars.length := by simp
     rw [show (({ q with vars := q.vars.set m 0 } : DStV).vars.length) = q.vars.length from hvl2] at g3
     have k40 := KeptF.cell g3
     have z5 := KeptF.cell (w0 := wz) (show wz.cell? ⟨bn, 5, none⟩ = some _ from (HPW.out _ _ _ _ HLz.out).2.cell 5)
     have z6 := KeptF.cell (w0 := wz) (show wz.cell? ⟨bn, 6, none⟩ = some _ from (HPW.out _ _ _ _ HLz.out).2.cell 6)
     have G6 := Lib.hid g6
     clear ho2 e2 g3 g6 hx0 hy hvl2
     go_wp2_with fail
     refine wp_region_sink 12 (KeptF wz) (by kernel_rfl) ?_
     have hSa : KeptF wz wz.drew := KeptF.start _
     refine tk 0 hSa ?_
     refine tk 1 hSa ?_
     refine tk 2 hSa ?_
     try simp only [Act.put, sA, sB, sC]
     refine tk 3 hSa ?_ (hy := by intro _ w; have ck40 := k40 _ w; go_simp <;> with_reducible rfl)
     try simp only [Act.put, sA, sB, sC]
     refine tk 4 hSa ?_
     try simp only [Act.put, sA, sB, sC]
     refine tk 5 hSa ?_ (hy := by intro _ w; have cz6 := z6 _ w; go_simp <;> with_reducible rfl)
     try simp only [Act.put, sA, sB, sC]
     refine tk 6 hSa ?_
     refine tk 7 hSa ?_
     try simp only [Act.put, sA, sB, sC]
     refine tk 8 hSa ?_ (hy := by intro _ w; have cz5 := z5 _ w; go_simp <;> with_reducible rfl)
     try simp only [Act.put, sA, sB, sC]
     refine tk 9 hSa ?_
     try simp only [Act.put, sA, sB, sC]
     refine tk 10 hSa ?_ (hy := by intro _ w; have cx0 := x0 _ w; go_simp <;> with_reducible rfl)
     try simp only [Act.put, sA, sB, sC]
     refine tk 11 hSa ?_
     try simp only [Act.put, sA, sB, sC]
     refine wpAnyS_last (i := 12) rfl (by kernel_rfl) (by decide) (by kernel_rfl) (by rfl) fun K hK => ?_
     go_simp
     refine hK.out _ _ ?_
     clear hK K hSa k40 z5 z6 x0 g4 g5
     have h9 := (G6.out y).fr0 ((Fr.refl _ Nil).drew)
     rw [L3.seti hij hik] at h9
     have HL9 := Lib.hid h9
     clear h9
     go_wp2_with fail
     go_meet
     case rel => exact ⟨DoneR.mk (ov := q.ov) HL9.out (by unfold doV; rw [if_pos rfl]; show q.vars.set m (readK M tab (valP q.vars key) cm) = _; rw [← HKY.out, readK_some HX3.out, Int.toNat_natCast, ← HY.out]; simp) (by simp [doO]) (by simp [doM]), fun h => absurd h (by decide)⟩
    ·have HX3 := Lib.hid hx
     have HL3 := Lib.hid (HL5.out.fr0 hf3)
     clear hx hf3 ht0
     go_wp2_with fail
     obtain ⟨vvb, vcap, ev, c3, d4, d5, d6⟩ := HL3.out.dbox i (L3.geti hij hik il) m hm
     have hvlt := (HL5.out.dst i (L3.geti hij hik il)).2.1.lt vvb (by show q.vv.ownBlock = _; rw [ev]; rfl)
     have HVLT := Lib.hid hvlt
     have k20 := KeptF.cell c3
     have k6 := KeptF.cell (w0 := w3) (show w3.cell? ⟨bn, 6, none⟩ = some _ from (HPW.out _ _ _ _ HL3.out).2.cell 6)
     clear c3 ev hvlt
     refine wp_region_sink 7 (KeptF w3) (by kernel_rfl) ?_
     have hSa : KeptF w3 w3.drew := KeptF.start _
     refine tk 0 hSa ?_
     refine tk 1 hSa ?_
     refine tk 2 hSa ?_
     try simp only [Act.put, sA, sB, sC]
     refine tk 3 hSa ?_ (hy := by intro _ w; have ck20 := k20 _ w; go_simp <;> with_reducible rfl)
     try simp only [Act.put, sA, sB, sC]
     refine tk 4 hSa ?_
     try simp only [Act.put, sA, sB, sC]
     refine tk 5 hSa ?_ (hy := by intro _ w; have ck6 := k6 _ w; go_simp <;> with_reducible rfl)
     try simp only [Act.put, sA, sB, sC]
     refine tk 6 hSa ?_
     try simp only [Act.put, sA, sB, sC]
     refine wpAnyS_last (i := 7) rfl (by kernel_rfl) (by decide) (by kernel_rfl) (by rfl) fun K hK => ?_
     go_simp
     refine hK.out _ _ ?_
     clear hK K d4 d5 hSa k20 k6
     have D6 := (d6 0).fr0 ((Fr.refl _ Nil).drew)
     rw [L3.seti hij hik] at D6
     obtain ⟨wz, hwz⟩ : ∃ wz, wz = (w3.setCell ⟨vvb, m, none⟩ (.int .i64 0)).drew := ⟨_, rfl⟩
     have HFZ : Hid (Fr w3 wz (fun k => k = vvb)) := by rw [hwz]; exact Lib.hid (Fr.store _ _ _ _).drew
     rw [← hwz] at D6 ⊢
     have HLz := Lib.hid D6
     clear D6 d6 hwz
     go_wp2_with fail
     go_meet
     case rel => exact ⟨DoneR.mk (ov := q.ov) HLz.out (by unfold doV; rw [if_pos rfl]; show q.vars.set m (readK M tab (valP q.vars key) col) = _; rw [← HKY.out, readK_none HX3.out]) (by simp [doO]) (by simp [doM]), fun h => absurd h (by decide)⟩
   ·have h1v : 0 < vals.length := by have := HOK.out.one (.inl rfl); simp only at this; omega
    obtain ⟨xb, xoff, xa, xc, rfl, hx0, hxt⟩ := HV5.out.get 0 h1v
    have hxl : (vals.getD 0 []).length ≤ 100000 := by
     rw [List.getD_eq_getElem?_getD, List.getElem?_eq_getElem h1v]
     exact HFT.out.2 _ (List.getElem_mem h1v)
    have HXT := Lib.hid hxt
    simp only [Nat.add_zero] at hx0
    have kx0 := KeptF.cell hx0
    generalize hxg : vals.getD 0 [] = x at *
    have HXG := Lib.hid hxg
    clear hx0 hxt hxg
    have k3 := KeptF.cell (w0 := wc) (show wc.cell? ⟨bn, 3, none⟩ = some _ from (HPW.out _ _ _ _ HL5.out).2.cell 3)
    have k5 := KeptF.cell (w0 := wc) (show wc.cell? ⟨bn, 5, none⟩ = some _ from (HPW.out _ _ _ _ HL5.out).2.cell 5)
    have k12 := KeptF.cell (w0 := wc) (show wc.cell? ⟨bn, 12, none⟩ = some _ from (HPW.out _ _ _ _ HL5.out).2.cell 12)
    go_wp2_with fail
    refine wp_region_sink 12 (KeptF wc) (by kernel_rfl) ?_
    have hSa : KeptF wc wc.drew := KeptF.start _
    refine tk 0 hSa ?_
    refine tk 1 hSa ?_
    try simp only [Act.put, sA, sB, sC]
    refine tk 2 hSa ?_ (hy := by intro _ w; have ck3 := k3 _ w; go_simp <;> with_reducible rfl)
    try simp only [Act.put, sA, sB, sC]
    refine tk 3 hSa ?_
    refine tk 4 hSa ?_
    try simp only [Act.put, sA, sB, sC]
    refine tk 5 hSa ?_ (hy := by intro _ w; have ck5 := k5 _ w; go_simp <;> with_reducible rfl)
    try simp only [Act.put, sA, sB, sC]
    refine tk 6 hSa ?_
    refine tk 7 hSa ?_
    try simp only [Act.put, sA, sB, sC]
    refine tk 8 hSa ?_ (hy := by intro _ w; have ck12 := k12 _ w; go_simp <;> with_reducible rfl)
    try simp only [Act.put, sA, sB, sC]
    refine tk 9 hSa ?_
    try simp only [Act.put, sA, sB, sC]
    refine tk 10 hSa ?_ (hy := by intro _ w; have ckx0 := kx0 _ w; go_simp <;> with_reducible rfl)
    try simp only [Act.put, sA, sB, sC]
    refine on1 11 fun K hK => ?_
    go_simp
    refine (dvalue_any q _ x _ ((HL5.out.fr0 (KeptF.fr hSa)).dstR i (L3.geti hij hik il)) (HXT.out.fr0 (KeptF.fr hSa)) hxl (by rw [HF.out.len]; have := HF.out.le; omega)).mono ?_
    rintro e w6 ⟨rfl, hf6⟩
    have hSb := KeptF.next hSa hf6
    refine hK.out _ _ hSb ?_
    clear hK K
    try simp only [Act.put, sA, sB, sC]
    refine wpAnyS_last (i := 12) rfl (by kernel_rfl) (by decide) (by kernel_rfl) (by rfl) fun K hK => ?_
    go_simp
    refine (st_qset (HL5.out.fr0 (KeptF.fr hSb)) j (L3.getj hjk jl) tab ky col _ HG.out HFE.out hN).mono ?_
    rintro e w7 ⟨⟨ra, rb, rfl⟩, h⟩
    rw [L3.setj hjk] at h
    refine hK.out _ _ ?_
    have HL6 := Lib.hid h
    clear hK K h hSa hSb hf6 k3 k5 k12 kx0
    go_wp2_with fail
    go_meet
    case rel => exact ⟨DoneR.mk (ov := q.ov) HL6.out (by simp [doV]) (by simp [doO]) (by unfold doM; rw [if_pos rfl, ← HKY.out, HXG.out]), fun h => absurd h (by decide)⟩
   ·have hvn := HFT.out.1
    have C3 := Lib.hid ((HPW.out _ _ _ _ HL5.out).2.cell 3)
    have C12 := Lib.hid ((HPW.out _ _ _ _ HL5.out).2.cell 12)
    simp only [List.getElem?_cons_zero, List.getElem?_cons_succ] at C3 C12
    go_wp2_with fail
    go_loopw [16, 17] (fun vs vi wr => ∃ (t : Nat) (g : Option Addr) (cap : Nat), t ≤ vals.length ∧ vi = .int .i64 t ∧ vs = .slice g t cap ∧ wr.ownsRow wc.heap.size 2 1 (.slice g t cap) t (((vals.take t).map (valP q.vars)).map (Value.int .i64)) ∧ Fr wc wr Nil) (fun _ vi _ => vals.length - (intOf vi).toNat)
    case atStart => exact ⟨0, none, 0, by omega, rfl, rfl, World.ownsRow_nil _ _ _ _, Fr.refl _ _⟩
    case round =>
     obtain ⟨t, g, cap, ht, rfl, rfl, ho, hf⟩ := hrel
     have HO := Lib.hid ho
     have HFR := Lib.hid hf
     obtain ⟨wo, rfl⟩ : ∃ wo : World, wo = wr := ⟨_, rfl⟩
     have c12 := HFR.out.cell C12.out fun h => h
     clear ho hf
     by_cases hlt : t < vals.length
     ·obtain ⟨xb, xoff, xa, xc, rfl, hx0, hxt⟩ := HV5.out.get t hlt
      have hxl : (vals.getD t []).length ≤ 100000 := by
       rw [List.getD_eq_getElem?_getD, List.getElem?_eq_getElem hlt]
       exact HFT.out.2 _ (List.getElem_mem hlt)
      have HTK : Hid (((vals.take (t + 1)).map (valP q.vars)).map (Value.int .i64) = ((vals.take t).map (valP q.vars)).map (Value.int .i64) ++ [.int .i64 (valP q.vars (vals.getD t []))]) := by
       have : ((vals.take (t + 1)).map (valP q.vars)).map (Value.int .i64) = ((vals.take t).map (valP q.vars)).map (Value.int .i64) ++ [.int .i64 (valP q.vars (vals.getD t []))] := by
        have e : vals.take (t + 1) = vals.take t ++ [vals.getD t []] := by rw [List.take_add_one, List.getElem?_eq_getElem hlt, List.getD_eq_getElem?_getD, List.getElem?_eq_getElem hlt]; rfl
        rw [e, List.map_append, List.map_append]
        rfl
       exact this
      generalize vals.getD t [] = x at *
      have HXT := Lib.hid (hxt.fr0 HFR.out)
      have p0 := HFR.out.cell hx0 fun h => h
      have hii : (t : Int) < (vals.length : Int) := by omega
      clear hx0 hxt
      go_wp2_with fail
      refine (dvalue_any q _ x _ ((HL5.out.fr0 HFR.out).dstR i (L3.geti hij hik il)) HXT.out hxl (by rw [HF.out.len]; have := HF.out.le; omega)).mono ?_
      rintro e w6 ⟨he, hf6⟩
      obtain ⟨y, hy⟩ : ∃ y, y = valP q.vars x := ⟨_, rfl⟩
      rw [← hy] at he
      subst he
      have HY := Lib.hid hy
      have HF6 := Lib.hid hf6
      clear hy hf6 p0 c12
      have ho7 := (HF6.out.own HO.out fun _ _ h => h)
      have HO7 := Lib.hid ho7
      clear ho7
      go_wp2_with (at_builtin; refine wpList_app _ rfl _ _ 24 rfl Tryz.sltRun _ rfl (World.ownsRow.alloc (own_mono HO7.out (Nat.zero_le _)) _) _ rfl (slone w6 _ y) (by simp [Value.oneCell']) (by omega) ?_; intro g2 cap2 W1 ho hg hat; have HO8 := Lib.hid ho; have HG8 := Lib.hid hg; have HAT := Lib.hid hat; clear ho hg hat)
      go_roundw
      case rel =>
       have hlo := fun k hk => (World.ownsRow.lt HO7.out k hk)
       refine ⟨t + 1, g2, cap2, by omega, by go_num, rfl, ?_, ?_⟩
       ·rw [HTK.out, ← HY.out]
        refine own_base HO8.out fun k hk => ?_
        rcases HAT.out with e | e
        ·exact (hlo k (show (Value.slice g t cap).ownBlock = some k from e.symm.trans hk)).1
        ·rw [e] at hk
         cases hk
         have hsz : (w6.alloc (.cells #[.int .i64 y] 2)).heap.size = w6.heap.size + 1 := by simp
         have := HFR.out.size
         have := HF6.out.size
         omega
       ·refine (((HFR.out.trans0 HF6.out).alloc _)).grown HG8.out fun k hk hlt => ?_
        have := (hlo k hk).1
        omega
      case measure => simp [intOf]; omega
     ·obtain rfl : t = vals.length := by omega
      have hii : ¬ (vals.length : Int) < (vals.length : Int) := by omega
      have ho := HO.out
      rw [List.take_length] at ho
      have hiv : IntsAt wo (.slice g vals.length cap) (vals.map (valP q.vars)) := by
       have h2 := (SlAt.of_own ho).1
       have : SlAt wo 1 (.slice g vals.length cap) (vals.map (valP q.vars)).length ((vals.map (valP q.vars)).map (Value.int .i64)) := by rw [List.length_map]; exact h2
       exact this.ints
      have HIV := Lib.hid hiv
      have z3 := HFR.out.cell C3.out fun h => h
      have HLw := Lib.hid (HL5.out.fr0 HFR.out)
      have hgq : ∀ k, (Value.slice g vals.length cap).ownBlock = some k → k ≠ qb := fun k hk e => by
       have h8 := (World.ownsRow.lt ho k hk).1
       have h9 := HL5.out.qlt j (L3.getj hjk jl)
       omega
      have HGQ := Lib.hid hgq
      clear ho hiv hlt ht hgq
      go_wp2_with fail
      refine (st_qput HLw.out j (L3.getj hjk jl) tab ky _ (vals.map (valP q.vars)) HG.out HFE.out hN HIV.out HGQ.out (by rw [List.length_map]; omega)).mono ?_
      rintro e w9 ⟨rfl, h⟩
      rw [L3.setj hjk] at h
      have HL9 := Lib.hid h
      clear h z3 c12
      go_wp2_with fail
      go_meet
      case rel => exact ⟨DoneR.mk (ov := q.ov) HL9.out (by simp [doV]) (by simp [doO]) (by unfold doM; rw [if_neg (by simp), if_pos rfl, ← HKY.out]), fun h => absurd h (by decide)⟩
   ·have y3 : wc.cell? ⟨bn, 3, none⟩ = some _ := (HPW.out _ _ _ _ HL5.out).2.cell 3
    go_wp2_with fail
    refine (st_qdel HL5.out j (L3.getj hjk jl) tab ky HG.out HFE.out hN).mono ?_
    rintro e w6 ⟨rfl, h⟩
    rw [L3.setj hjk] at h
    have HL6 := Lib.hid h
    clear h y3
    go_wp2_with fail
    go_meet
    case rel => exact ⟨DoneR.mk (ov := q.ov) HL6.out (by simp [doV]) (by simp [doO]) (by unfold doM; rw [if_neg (by simp), if_neg (by simp), if_pos rfl, ← HKY.out]), fun h => absurd h (by decide)⟩
  case rest =>
   obtain ⟨⟨ov, h6⟩, hvc⟩ := hcut
   have HVC := Lib.hid hvc
   clear hvc
   obtain ⟨vs, hvs⟩ : ∃ vs, vs = doV ⟨op, node, mode, tab, row, col, var, dst, eq, fro, upto, key, vals⟩ q.vars M := ⟨_, rfl⟩
   obtain ⟨os, hos⟩ : ∃ os, os = doO ⟨op, node, mode, tab, row, col, var, dst, eq, fro, upto, key, vals⟩ q.vars q.out := ⟨_, rfl⟩
   obtain ⟨M6, hM6⟩ : ∃ M6, M6 = doM ⟨op, node, mode, tab, row, col, var, dst, eq, fro, upto, key, vals⟩ q.vars M := ⟨_, rfl⟩
   have HVS := Lib.hid hvs
   have HOS := Lib.hid hos
   have HM6 := Lib.hid hM6
   rw [← hvs, ← hos, ← hM6] at h6
   have HL6 := Lib.hid h6
   have HVL : Hid (vs.length = q.vars.length) := Lib.hid (by rw [hvs]; exact doV_len _ _)
   clear hvs hos hM6 h6 HL5 HV5
   skip
   have y0 := (HPW.out _ _ _ _ HL6.out).2.cell 0
   have y1 := (HPW.out _ _ _ _ HL6.out).2.cell 1
   have y2 := (HPW.out _ _ _ _ HL6.out).2.cell 2
   have y3 := (HPW.out _ _ _ _ HL6.out).2.cell 3
   have y4 := (HPW.out _ _ _ _ HL6.out).2.cell 4
   have y5 := (HPW.out _ _ _ _ HL6.out).2.cell 5
   have y6 := (HPW.out _ _ _ _ HL6.out).2.cell 6
   have y7 := (HPW.out _ _ _ _ HL6.out).2.cell 7
   have y8 := (HPW.out _ _ _ _ HL6.out).2.cell 8
   have y9 := (HPW.out _ _ _ _ HL6.out).2.cell 9
   have y10 := (HPW.out _ _ _ _ HL6.out).2.cell 10
   have y11 := (HPW.out _ _ _ _ HL6.out).2.cell 11
   have y12 := (HPW.out _ _ _ _ HL6.out).2.cell 12
   simp only [List.getElem?_cons_zero, List.getElem?_cons_succ] at y0 y1 y2 y3 y4 y5 y6 y7 y8 y9 y10 y11 y12
   go_wp2_with fail
   refine (dmoves_any HL6.out i (L3.geti hij hik il) ⟨op, node, mode, tab, row, col, var, dst, eq, fro, upto, key, vals⟩ (.slice ka key.length kc) (.slice va vals.length vc) ⟨_, _, rfl⟩ ⟨_, _, rfl⟩ HVC.out HFT.out (by show vs.length ≤ _; rw [HVL.out, HF.out.len]; exact HF.out.le) (by show q.at' < _; omega) (by show IOk TB vs.length q.L.length _; rw [HVL.out, HF.out.len]; exact HOK.out)).mono ?_
   rintro e w7 ⟨he, h7⟩
   rw [L3.seti hij hik] at h7
   simp only at he h7
   obtain ⟨v7, hv7⟩ : ∃ v7, v7 = (onP ⟨op, node, mode, tab, row, col, var, dst, eq, fro, upto, key, vals⟩ vs).1 := ⟨_, rfl⟩
   obtain ⟨o7, ho7⟩ : ∃ o7, o7 = (onP ⟨op, node, mode, tab, row, col, var, dst, eq, fro, upto, key, vals⟩ vs).2 := ⟨_, rfl⟩
   have hn7 := nextAt_is o7 q.at' (fun t ht => by
    have hd := onP_dst (n := ⟨op, node, mode, tab, row, col, var, dst, eq, fro, upto, key, vals⟩) (vars := vs) (t := t) (by rw [← ho7]; exact ht)
    have h9 := (HOK.out.dst ⟨hd.2.1, hd.2.2⟩).1
    rw [hd.1]
    exact h9)
   obtain ⟨a7, ha7⟩ : ∃ a7 : Nat, a7 = atN o7 q.at' := ⟨_, rfl⟩
   rw [← ha7] at hn7
   rw [← ho7, hn7] at he
   rw [← hv7] at h7
   subst he
   have HL7 := Lib.hid h7
   have hr8 : r = (⟨1, wt, wr, wy, wm, wto, wwr⟩, 0, ⟨a7, v7, os, M6, lg2⟩) := by
    rw [HR5.out]
    unfold wentP
    simp only
    rw [← HVS.out, ← HOS.out, ← HM6.out, ← hv7, ← ho7, ha7]
    rfl
   have HR8 := Lib.hid hr8
   clear h7 hr8 hn7 ha7 hv7 ho7 y0 y1 y2 y3 y4 y5 y6 y7 y8 y9 y10 y11 y12
   have b2 := (HL7.out.dstR i (L3.geti hij hik il)).box.cell 1
   have bf := (HL7.out.dstR i (L3.geti hij hik il)).box.free 1
   simp only [DStV.cs, List.getElem?_cons_zero, List.getElem?_cons_succ] at b2
   go_upto_region 34 with (fail)
   have h8 := HL7.out.dstAt i (L3.geti hij hik il) a7 (a7 : Int) rfl
   rw [L3.seti hij hik] at h8
   obtain ⟨w8, hw8⟩ : ∃ w8, w8 = w7.setCell ⟨q.sb, 1, none⟩ (.int .i64 (a7 : Int)) := ⟨_, rfl⟩
   rw [← hw8] at h8 ⊢
   have HL8 := Lib.hid h8
   clear h8 hw8 b2 bf
   have x0 := (HPW.out _ _ _ _ HL8.out).1.cell 0
   have x1 := (HPW.out _ _ _ _ HL8.out).1.cell 1
   have x2 := (HPW.out _ _ _ _ HL8.out).1.cell 2
   have x3 := (HPW.out _ _ _ _ HL8.out).1.cell 3
   have x4 := (HPW.out _ _ _ _ HL8.out).1.cell 4
   have x5 := (HPW.out _ _ _ _ HL8.out).1.cell 5
   have x6 := (HPW.out _ _ _ _ HL8.out).1.cell 6
   simp only [List.getElem?_cons_zero, List.getElem?_cons_succ] at x0 x1 x2 x3 x4 x5 x6
   have z0 : w8.cell? ⟨b8, 0, none⟩ = some (.int .u8 0) := (HPB.out _ _ _ _ HL8.out).cell 0
   have z1 : w8.cell? ⟨b8, 1, none⟩ = some (.int .i64 0) := (HPB.out _ _ _ _ HL8.out).cell 1
   have z2 : w8.cell? ⟨b8, 2, none⟩ = some (.bool false) := (HPB.out _ _ _ _ HL8.out).cell 2
   have z3 : w8.cell? ⟨b8, 3, none⟩ = some (.int .i64 0) := (HPB.out _ _ _ _ HL8.out).cell 3
   have z4 : w8.cell? ⟨b8, 4, none⟩ = some (.int .u8 0) := (HPB.out _ _ _ _ HL8.out).cell 4
   have z5 : w8.cell? ⟨b8, 5, none⟩ = some (.bool false) := (HPB.out _ _ _ _ HL8.out).cell 5
   have z6 : w8.cell? ⟨b8, 6, none⟩ = some (.bool false) := (HPB.out _ _ _ _ HL8.out).cell 6
   have s8 := (HPB.out _ _ _ _ HL8.out).free
   go_wp2_with fail
   refine set7_world (HPB.out _ _ _ _ HL8.out) ?_
   intro w9 hb9 hf9
   have HLF := Lib.hid (step_fin (by rw [← HL2E.out]; exact HL8.out) hil hjl hkl (by rw [← HL2E.out]; exact HGB.out) hb9 hf9)
   have t0 := hb9.cell 0
   have t1 := hb9.cell 1
   have t2 := hb9.cell 2
   have t3 := hb9.cell 3
   have t4 := hb9.cell 4
   have t5 := hb9.cell 5
   have t6 := hb9.cell 6
   simp only [List.getElem?_cons_zero, List.getElem?_cons_succ] at t0 t1 t2 t3 t4 t5 t6
   clear hb9 hf9 x0 x1 x2 x3 x4 x5 x6 s8 z0 z1 z2 z3 z4 z5 z6
   go_wp2_with fail
   exact bodyPost_ret (v := .tuple #[(⟨1, wt, wr, wy, wm, wto, wwr⟩ : WantD).val, .int .i64 0]) (by simp [results, Tryz.results22, go_sem, t0, t1, t2, t3, t4, t5, t6]; try rfl) rfl ⟨by rw [HR8.out]; rfl, ov, by rw [HR8.out]; exact HLF.out⟩
end
end Go.Proofs.YtgpekgnhbccnoaaGreat
namespace Go.Proofs.YtgpekgnhbccnoaaGreat
open Go Go.RowKit
attribute [local go_sem ↓] Go.wp_at_zero Go.wp_at_succ
section
variable {w0 W : World} {l : List Thing} {q : DStV} {M : List MTab} {qb vb : Nat} {most : Int} {lg : List (Int × Ent)}
set_option maxRecDepth 100000 in
set_option maxHeartbeats 16000000 in
theorem dstep_b (h : Lies w0 W l) (i j k : Nat) (hi : l[i]? = some (dstT q)) (hj : l[j]? = some (refM qb M)) (hk : l[k]? = some (dlogT vb most lg)) (hij : i ≠ j) (hik : i ≠ k) (hjk : j ≠ k) (TB : List Int) (nv : Nat) (hf : DStF q TB nv) (n : InstrD) (hn : q.L[q.at']? = some n) (hg : Good M) {N : Nat} (hfe : Few N M) (hN : N < 1000) (hc : colsN M = TB) (who : Int) (hll : lg.length ≤ 100000) (hol : q.out.length ≤ 100000) (h100 : q.L.length ≤ 100000) (hgr : n.op = 7 ∨ n.op = 8 ∨ n.op = 9) :
  Calls Tryz.prog 22 #[.pointer (some ⟨q.sb, 0, none⟩), .int .i64 who, rptr qb, rptr vb] W (DStepRet w0 l i j k q qb vb most (stepM q.L most who ⟨q.at', q.vars, q.out, M, lg⟩)) := by
 have hall := And.intro hij (And.intro hik (And.intro hjk (And.intro hN (And.intro hll (And.intro hol h100)))))
 clear hall
 obtain ⟨iI, hiI, hsI⟩ := info_size Tryz.infoDI
 have hLl := hf.few.1
 have hat := hf.at'
 have hil := (List.getElem?_eq_some_iff.1 hi).1
 have hjl := (List.getElem?_eq_some_iff.1 hj).1
 have hkl := (List.getElem?_eq_some_iff.1 hk).1
 have HGN : Hid (q.L.getD q.at' default = n) := Lib.hid (by rw [List.getD_eq_getElem?_getD, hn]; rfl)
 obtain ⟨r, hr⟩ : ∃ r, r = stepM q.L most who ⟨q.at', q.vars, q.out, M, lg⟩ := ⟨_, rfl⟩
 rw [← hr]
 have HR := Lib.hid hr
 obtain ⟨w1, hw1⟩ : ∃ w1, w1 = W.alloc (.cells wantZ 52) := ⟨_, rfl⟩
 obtain ⟨b8, hb8⟩ : ∃ b8, b8 = W.heap.size := ⟨_, rfl⟩
 have HL1 : Hid (Lies w0 w1 (l ++ [bkT b8 52 wantZ.toList])) := by rw [hw1, hb8]; exact Lib.hid (h.newBk _ _)
 have HI1 : Hid ((l ++ [bkT b8 52 wantZ.toList])[i]? = some (dstT q)) := Lib.hid (by rw [List.getElem?_append_left hil]; exact hi)
 have HW1 := Lib.hid hw1
 have HB8 := Lib.hid hb8
 have HI := Lib.hid hi
 have HJ := Lib.hid hj
 have HK := Lib.hid hk
 have HF := Lib.hid hf
 have HN := Lib.hid hn
 have HG := Lib.hid hg
 have HFE := Lib.hid hfe
 have HC := Lib.hid hc
 obtain ⟨x, hx⟩ : ∃ x, x = nextP n q.vars := ⟨_, rfl⟩
 have HX := Lib.hid hx
 have HNX := Lib.hid (dnext_any q TB nv n w1 (HL1.out.dstR i HI1.out) hf hn)
 rw [← hx] at HNX
 clear h hi hj hk hf hn hg hfe hc hw1 hb8 hr hx
 obtain ⟨wk, wt, wr, wy, wm, wto, wwr⟩ := x
 simp only [WantD.val] at HNX
 go_enter Tryz.func22, Tryz.ntmps22
 go_wp2_with fail
 rw [← HW1.out, ← HB8.out]
 refine HNX.out.mono ?_
 rintro e w2 ⟨he, hf2⟩
 subst he
 have HL2 := Lib.hid (HL1.out.fr0 hf2)
 clear hf2 HNX
 go_upto_region 2 with (fail)
 obtain ⟨bw, hbw⟩ : ∃ bw, bw = w2.heap.size := ⟨_, rfl⟩
 obtain ⟨w3, hw3⟩ : ∃ w3, w3 = w2.alloc (.cells #[.int .u8 wk, .int .i64 wt, .bool wr, .int .i64 wy, .int .u8 wm, .bool wto, .bool wwr] 52) := ⟨_, rfl⟩
 have HBW : Hid (Bk w3 bw 52 [.int .u8 wk, .int .i64 wt, .bool wr, .int .i64 wy, .int .u8 wm, .bool wto, .bool wwr]) := by rw [hw3, hbw]; exact Lib.hid (Bk.new w2 _ _)
 have HF3 : Hid (Fr w2 w3 Nil) := by rw [hw3]; exact Lib.hid ((Fr.refl w2 Nil).alloc _)
 have HBS := Lib.hid hbw
 rw [← hw3, ← hbw]
 clear hw3 hbw
 have HL3 := Lib.hid (HL2.out.fr0 HF3.out)
 have HOK : Hid (IOk TB nv q.L.length n) := Lib.hid (HF.out.ok.all _ _ HN.out)
 have hk1 : wk = 1 := by
  have h9 := (nextP_kind q.vars HOK.out.lo HOK.out.hi).2 (by omega)
  rw [← HX.out] at h9
  exact h9
 subst hk1
 have b0 := (HL3.out.dstR i HI1.out).box.cell 0
 have b1 := (HL3.out.dstR i HI1.out).box.cell 1
 simp only [DStV.cs, List.getElem?_cons_zero, List.getElem?_cons_succ] at b0 b1
 obtain ⟨b, off, cap, hlv, hlc⟩ := (HL3.out.dstR i HI1.out).code.form (by omega)
 have HLV := Lib.hid hlv
 rw [hlv] at b0
 obtain ⟨ka, kc, va, vc, hkt, hvt, p0, p1, p2, p3, p4, p5, p6, p7, p8, p9, p10, p11, p12⟩ := (hlc q.at' n HN.out).cell
 have HKT := Lib.hid hkt
 have HVT := Lib.hid hvt
 have HP11 := Lib.hid p11
 have HP12 := Lib.hid p12
 have k0 := KeptF.cell b0
 have k1 := KeptF.cell b1
 have j0 := KeptF.cell p0
 have j1 := KeptF.cell p1
 have j2 := KeptF.cell p2
 have j3 := KeptF.cell p3
 have j4 := KeptF.cell p4
 have j5 := KeptF.cell p5
 have j6 := KeptF.cell p6
 have j7 := KeptF.cell p7
 have j8 := KeptF.cell p8
 have j9 := KeptF.cell p9
 have j10 := KeptF.cell p10
 have j11 := KeptF.cell p11
 have j12 := KeptF.cell p12
 clear hlc hlv hkt hvt b0 b1 p0 p1 p2 p3 p4 p5 p6 p7 p8 p9 p10 p11 p12
 obtain ⟨op, node, mode, tab, row, col, var, dst, eq, fro, upto, key, vals⟩ := n
 simp only at HKT HVT HP11 HP12 hgr j0 j1 j2 j3 j4 j5 j6 j7 j8 j9 j10 j11 j12
 have w0c : w3.cell? ⟨bw, 0, none⟩ = some _ := HBW.out.cell 0
 go_wp2_with fail
 clear w0c
 refine wp_region_sink 11 (KeptF w3) (by kernel_rfl) ?_
 have hS0 : KeptF w3 w3.drew := KeptF.start _
 refine tk 0 hS0 ?_
 refine tk 1 hS0 ?_
 refine tk 2 hS0 ?_
 try simp only [Act.put, sA, sB, sC]
 refine tk 3 hS0 ?_ (hy := by intro _ w; have ck0 := k0 _ w; go_simp <;> with_reducible rfl)
 try simp only [Act.put, sA, sB, sC]
 refine tk 4 hS0 ?_
 refine tk 5 hS0 ?_
 refine tk 6 hS0 ?_
 try simp only [Act.put, sA, sB, sC]
 refine tk 7 hS0 ?_ (hy := by intro _ w; have ck1 := k1 _ w; go_simp <;> with_reducible rfl)
 try simp only [Act.put, sA, sB, sC]
 refine tk 8 hS0 ?_
 try simp only [Act.put, sA, sB, sC]
 refine tk 9 hS0 ?_ (hy := by intro _ w; have cj0 := j0 _ w; have cj1 := j1 _ w; have cj2 := j2 _ w; have cj3 := j3 _ w; have cj4 := j4 _ w; have cj5 := j5 _ w; have cj6 := j6 _ w; have cj7 := j7 _ w; have cj8 := j8 _ w; have cj9 := j9 _ w; have cj10 := j10 _ w; have cj11 := j11 _ w; have cj12 := j12 _ w; go_simp <;> with_reducible rfl)
 try simp only [Act.put, sA, sB, sC]
 refine on1 10 fun K hK => ?_
 go_simp
 have hS1 := KeptF.next hS0 ((Fr.refl _ Nil).alloc (.cells #[.int .u8 0, .int .i64 0, .int .u8 0, .int .i64 0, .bool false, .int .i64 0, .int .i64 0, .int .i64 0, .bool false, .int .i64 0, .int .i64 0, .slice none 0 0, .slice none 0 0] 97))
 refine hK.out _ _ hS1 ?_
 clear hK K
 try simp only [Act.put, sA, sB, sC]
 refine wpAnyS_last (i := 11) rfl (by kernel_rfl) (by decide) (by kernel_rfl) (by rfl) fun K hK => ?_
 refine wp_store_bk 97 _ _ rfl _ _ _ [.int .u8 op, .int .i64 node, .int .u8 mode, .int .i64 tab, .bool row, .int .i64 col, .int .i64 var, .int .i64 dst, .bool eq, .int .i64 fro, .int .i64 upto, .slice ka key.length kc, .slice va vals.length vc] _ rfl rfl rfl iI hiI hsI (Bk.new w3.drew 97 #[.int .u8 0, .int .i64 0, .int .u8 0, .int .i64 0, .bool false, .int .i64 0, .int .i64 0, .int .i64 0, .bool false, .int .i64 0, .int .i64 0, .slice none 0 0, .slice none 0 0]) rfl (by simp [Value.oneCell']) ?_
 intro w4 hb4 hf4
 refine hK.out _ _ ?_
 clear hK K
 have HF4 : Hid (Fr w3 w4 Nil) := Lib.hid (KeptF.fr (KeptF.store hS1 hf4 (Nat.le_refl _)))
 obtain ⟨bn, hbn⟩ : ∃ bn, bn = w3.heap.size := ⟨_, rfl⟩
 have HBN := Lib.hid (show bn = w3.heap.size from hbn)
 rw [← hbn] at hb4 ⊢
 have HB4 := Lib.hid hb4
 clear hb4 hf4 hS0 hS1 k0 k1 hbn j0 j1 j2 j3 j4 j5 j6 j7 j8 j9 j10 j11 j12
 obtain ⟨l2, hl2⟩ : ∃ l2, l2 = l ++ [bkT b8 52 wantZ.toList, pairT bw bn 52 97 [.int .u8 1, .int .i64 wt, .bool wr, .int .i64 wy, .int .u8 wm, .bool wto, .bool wwr] [.int .u8 op, .int .i64 node, .int .u8 mode, .int .i64 tab, .bool row, .int .i64 col, .int .i64 var, .int .i64 dst, .bool eq, .int .i64 fro, .int .i64 upto, .slice ka key.length kc, .slice va vals.length vc]] := ⟨_, rfl⟩
 have HL2E := Lib.hid hl2
 have il : i < l2.length := by rw [hl2, List.length_append]; omega
 have jl : j < l2.length := by rw [hl2, List.length_append]; omega
 have kl : k < l2.length := by rw [hl2, List.length_append]; omega
 have HGB : Hid (l2[l.length]? = some (bkT b8 52 wantZ.toList)) := Lib.hid (by rw [hl2]; simp)
 have HGP : Hid (l2[l.length + 1]? = some (pairT bw bn 52 97 [.int .u8 1, .int .i64 wt, .bool wr, .int .i64 wy, .int .u8 wm, .bool wto, .bool wwr] [.int .u8 op, .int .i64 node, .int .u8 mode, .int .i64 tab, .bool row, .int .i64 col, .int .i64 var, .int .i64 dst, .bool eq, .int .i64 fro, .int .i64 upto, .slice ka key.length kc, .slice va vals.length vc])) := Lib.hid (by rw [hl2, List.getElem?_append_right (by omega), Nat.add_sub_cancel_left]; rfl)
 have HLx : Hid (Lies w0 w4 (L3 l2 i j k (dstT q) (refM qb M) (dlogT vb most lg))) := by
  have e1 : l2[i]? = some (dstT q) := by rw [hl2, List.getElem?_append_left hil]; exact HI.out
  have e2 : l2[j]? = some (refM qb M) := by rw [hl2, List.getElem?_append_left hjl]; exact HJ.out
  have e3 : l2[k]? = some (dlogT vb most lg) := by rw [hl2, List.getElem?_append_left hkl]; exact HK.out
  rw [L3.self e1 e2 e3, hl2]
  have h9 := HL2.out.add (pairT bw bn 52 97 [.int .u8 1, .int .i64 wt, .bool wr, .int .i64 wy, .int .u8 wm, .bool wto, .bool wwr] [.int .u8 op, .int .i64 node, .int .u8 mode, .int .i64 tab, .bool row, .int .i64 col, .int .i64 var, .int .i64 dst, .bool eq, .int .i64 fro, .int .i64 upto, .slice ka key.length kc, .slice va vals.length vc]) (W' := w4) (S := fun k => k = bw ∨ k = bn) ⟨⟨HBW.out.fr HF4.out fun h => h, HB4.out⟩, fun _ => Iff.rfl⟩ (fun k hk => hk.elim (fun e => by rw [e, HBS.out]; exact Nat.le_refl _) fun e => by rw [e, HBN.out]; exact HF3.out.size) (HF3.out.trans0 HF4.out)
  rw [List.append_assoc] at h9
  exact Lib.hid h9
 have HKTx := Lib.hid (HKT.out.fr0 HF4.out)
 have HVTx := Lib.hid (HVT.out.fr0 HF4.out)
 have HP11x := Lib.hid (HF4.out.cell HP11.out fun h => h)
 have HP12x := Lib.hid (HF4.out.cell HP12.out fun h => h)
 clear HB4 hl2 HKT HVT HP11 HP12 HL1 HL2 HL3 HBN HBS HF3 HBW
 have HPW : Hid (∀ (w : World) (x y z : Thing), Lies w0 w (L3 l2 i j k x y z) → Bk w bw 52 [.int .u8 1, .int .i64 wt, .bool wr, .int .i64 wy, .int .u8 wm, .bool wto, .bool wwr] ∧ Bk w bn 97 [.int .u8 op, .int .i64 node, .int .u8 mode, .int .i64 tab, .bool row, .int .i64 col, .int .i64 var, .int .i64 dst, .bool eq, .int .i64 fro, .int .i64 upto, .slice ka key.length kc, .slice va vals.length vc]) := Lib.hid (fun w x y z h => h.pair (l.length + 1) (by rw [L3.get (by omega) (by omega) (by omega)]; exact HGP.out))
 have HPB : Hid (∀ (w : World) (x y z : Thing), Lies w0 w (L3 l2 i j k x y z) → Bk w b8 52 wantZ.toList) := Lib.hid (fun w x y z h => h.bk l.length (by rw [L3.get (by omega) (by omega) (by omega)]; exact HGB.out))
 have hfew := HF.out.few.2 _ (List.mem_of_getElem? HN.out)
 have hkl2 := hfew.1
 have HFT := Lib.hid hfew.2
 simp only at hkl2 HFT
 clear hfew
 have y11 := (HPW.out _ _ _ _ HLx.out).2.cell 11
 simp only [List.getElem?_cons_zero, List.getElem?_cons_succ] at y11
 go_wp2_with fail
 refine (dvalue_any q _ key w4 (HLx.out.dstR i (L3.geti hij hik il)) HKTx.out hkl2 (by rw [HF.out.len]; have := HF.out.le; omega)).mono ?_
 rintro e w5 ⟨he, hf5⟩
 obtain ⟨ky, hky⟩ : ∃ ky, ky = valP q.vars key := ⟨_, rfl⟩
 rw [← hky] at he
 subst he
 have HKY := Lib.hid hky
 have HLy := Lib.hid (HLx.out.fr0 hf5)
 have HKTy := Lib.hid (HKTx.out.fr0 hf5)
 have HVTy := Lib.hid (HVTx.out.fr0 hf5)
 have HP11y := Lib.hid (hf5.cell HP11x.out fun h => h)
 have HP12y := Lib.hid (hf5.cell HP12x.out fun h => h)
 clear hky hf5 y11 HLx HKTx HVTx HP11x HP12x HF4
 have x6 := (HPW.out _ _ _ _ HLy.out).1.cell 6
 simp only [List.getElem?_cons_zero, List.getElem?_cons_succ] at x6
 have y3 := (HPW.out _ _ _ _ HLy.out).2.cell 3
 simp only [List.getElem?_cons_zero, List.getElem?_cons_succ] at y3
 go_upto_if 39 with (fail)
 go_cut [13] from 40 to 50 (fun v13 wx => ∃ lg2, lg2.length ≤ lg.length + 1 ∧ r = (⟨1, wt, wr, wy, wm, wto, wwr⟩, 0, wentP ⟨op, node, mode, tab, row, col, var, dst, eq, fro, upto, key, vals⟩ ⟨q.at', q.vars, q.out, M, lg⟩ lg2) ∧ Lies w0 wx (L3 l2 i j k (dstT q) (refM qb M) (dlogT vb most lg2)) ∧ TermsAt wx (.slice ka key.length kc) key ∧ ValsAt wx (.slice va vals.length vc) vals)
 case first =>
  cases hwwr : wwr
  ·subst hwwr
   go_wp2_with fail
   go_meet
   exact ⟨lg, by omega, by rw [HR.out]; exact stepM_went HGN.out HX.out rfl rfl, HLy.out, HKTy.out, HVTy.out⟩
  ·subst hwwr
   have hwy : wy = ky := by
    have h9 := congrArg WantD.key HX.out
    have h8 := (nextP_wrote q.vars).1 (by rw [← HX.out])
    rw [nextP_key q.vars h8] at h9
    rw [HKY.out]
    exact h9
   subst hwy
   go_wp2_with fail
   refine (st_dnoteK HLy.out k j (L3.getk kl) (L3.getj hjk jl) i (L3.geti hij hik il) (Ne.symm hik) who tab wy HG.out HFE.out hN hll).mono ?_
   rintro e w6 ⟨he, hl4, C, T, hc1, hc2, hc3⟩
   have hkeep := hc1.keepI hc2 hc3 HLV.out HN.out HP11y.out HP12y.out
   rw [L3.setk] at hl4
   have HK4 := Lib.hid hkeep
   have HL4 := Lib.hid hl4
   rw [noteD_is] at he
   clear hc1 hc2 hc3 hkeep hl4 x6 y3
   by_cases h0 : noteE M most lg tab = 0
   ·have HR4 : Hid (r = (⟨1, wt, wr, wy, wm, wto, true⟩, 0, wentP ⟨op, node, mode, tab, row, col, var, dst, eq, fro, upto, key, vals⟩ ⟨q.at', q.vars, q.out, M, lg⟩ (noteL M most lg who tab wy))) := Lib.hid (by rw [HR.out]; exact stepM_note HGN.out HX.out rfl rfl h0)
    rw [h0] at he
    have he2 : e = .returned (.int .i64 0) := he
    subst he2
    have HLN := Lib.hid (noteL_len M most lg who tab wy)
    clear h0 he
    go_wp2_with fail
    go_meet
    exact ⟨_, HLN.out, HR4.out, HL4.out, HK4.out.1, HK4.out.2⟩
   ·have HR4 : Hid (r = (WantD.zero, noteE M most lg tab, ⟨q.at', q.vars, q.out, M, lg⟩)) := Lib.hid (by rw [HR.out]; exact stepM_full (s := ⟨q.at', q.vars, q.out, M, lg⟩) HGN.out HX.out rfl rfl h0)
    have HLE : Hid (noteL M most lg who tab wy = lg) := Lib.hid (by unfold noteL; rw [if_neg h0])
    rw [HLE.out] at HL4
    have h00 := errD_ne (noteE_ne h0)
    generalize noteE M most lg tab = ne at he h0 HR4 h00
    obtain ⟨nd, hnd⟩ : ∃ nd, nd = errD ne := ⟨_, rfl⟩
    rw [← hnd] at he h00
    have HND := Lib.hid hnd
    have d0 : (nd != 0) = true := by rw [bne_iff_ne]; exact h00
    subst he
    have z0 : w6.cell? ⟨b8, 0, none⟩ = some (.int .u8 0) := (HPB.out _ _ _ _ HL4.out).cell 0
    have z1 : w6.cell? ⟨b8, 1, none⟩ = some (.int .i64 0) := (HPB.out _ _ _ _ HL4.out).cell 1
    have z2 : w6.cell? ⟨b8, 2, none⟩ = some (.bool false) := (HPB.out _ _ _ _ HL4.out).cell 2
    have z3 : w6.cell? ⟨b8, 3, none⟩ = some (.int .i64 0) := (HPB.out _ _ _ _ HL4.out).cell 3
    have z4 : w6.cell? ⟨b8, 4, none⟩ = some (.int .u8 0) := (HPB.out _ _ _ _ HL4.out).cell 4
    have z5 : w6.cell? ⟨b8, 5, none⟩ = some (.bool false) := (HPB.out _ _ _ _ HL4.out).cell 5
    have z6 : w6.cell? ⟨b8, 6, none⟩ = some (.bool false) := (HPB.out _ _ _ _ HL4.out).cell 6
    have s8 := (HPB.out _ _ _ _ HL4.out).free
    clear h0 h00 hnd
    go_wp2_with fail
    refine set7_world (HPB.out _ _ _ _ HL4.out) ?_
    intro w9 hb9 hf9
    have HLF := Lib.hid (step_fin (by rw [← HL2E.out]; exact HL4.out) hil hjl hkl (by rw [← HL2E.out]; exact HGB.out) hb9 hf9)
    have t0 := hb9.cell 0
    have t1 := hb9.cell 1
    have t2 := hb9.cell 2
    have t3 := hb9.cell 3
    have t4 := hb9.cell 4
    have t5 := hb9.cell 5
    have t6 := hb9.cell 6
    simp only [List.getElem?_cons_zero, List.getElem?_cons_succ] at t0 t1 t2 t3 t4 t5 t6
    clear hb9 hf9 s8 z0 z1 z2 z3 z4 z5 z6
    go_wp2_with fail
    exact bodyPost_ret (v := .tuple #[WantD.zero.val, .int .i64 nd]) (by simp [results, Tryz.results22, go_sem, t0, t1, t2, t3, t4, t5, t6, WantD.zero]; try rfl) rfl ⟨by rw [HR4.out, HND.out], q.ov, by rw [HR4.out]; exact HLF.out⟩
 case rest =>
  obtain ⟨lg2, hlg2, hr2, hl5, hk5, hv5⟩ := hcut
  have HR5 := Lib.hid hr2
  have HL5 := Lib.hid hl5
  have HV5 := Lib.hid hv5
  clear hr2 hl5 hk5 hv5 x6 y3 HLy HKTy HVTy HP11y HP12y
  have y0 : wc.cell? ⟨bn, 0, none⟩ = some _ := (HPW.out _ _ _ _ HL5.out).2.cell 0
  go_upto_block 0 with (fail)
  clear y0
  go_cut [14, 15, 16, 17] from 53 to 176 (fun v14 v15 v16 v17 wx => DoneR w0 l2 i j k q qb M (dlogT vb most lg2) ⟨op, node, mode, tab, row, col, var, dst, eq, fro, upto, key, vals⟩ wx ∧ ((10 : Int) ≤ op → ValsAt wx (.slice va vals.length vc) vals))
  case first =>
   rcases hgr with rfl | rfl | rfl
   ·have hv0 := HOK.out.var (.inr (.inl rfl))
    simp only at hv0
    obtain ⟨m, rfl⟩ : ∃ m : Nat, var = (m : Int) := ⟨var.toNat, by omega⟩
    have hm : m < q.vars.length := by rw [HF.out.len]; omega
    clear hv0
    obtain ⟨vvb, vcap, _, c3, _⟩ := HL5.out.dbox i (L3.geti hij hik il) m hm
    have k20 := KeptF.cell c3
    clear c3
    have k3 := KeptF.cell (w0 := wc) (show wc.cell? ⟨bn, 3, none⟩ = some _ from (HPW.out _ _ _ _ HL5.out).2.cell 3)
    have k5 := KeptF.cell (w0 := wc) (show wc.cell? ⟨bn, 5, none⟩ = some _ from (HPW.out _ _ _ _ HL5.out).2.cell 5)
    have k6 := KeptF.cell (w0 := wc) (show wc.cell? ⟨bn, 6, none⟩ = some _ from (HPW.out _ _ _ _ HL5.out).2.cell 6)
    go_wp2_with fail
    refine wp_region_sink 13 (KeptF wc) (by kernel_rfl) ?_
    have hSa : KeptF wc wc.drew := KeptF.start _
    refine tk 0 hSa ?_
    refine tk 1 hSa ?_
    refine tk 2 hSa ?_
    try simp only [Act.put, sA, sB, sC]
    refine tk 3 hSa ?_ (hy := by intro _ w; have ck20 := k20 _ w; go_simp <;> with_reducible rfl)
    try simp only [Act.put, sA, sB, sC]
    refine tk 4 hSa ?_
    try simp only [Act.put, sA, sB, sC]
    refine tk 5 hSa ?_ (hy := by intro _ w; have ck6 := k6 _ w; go_simp <;> with_reducible rfl)
    try simp only [Act.put, sA, sB, sC]
    refine tk 6 hSa ?_
    refine tk 7 hSa ?_
    try simp only [Act.put, sA, sB, sC]
    refine tk 8 hSa ?_ (hy := by intro _ w; have ck3 := k3 _ w; go_simp <;> with_reducible rfl)
    try simp only [Act.put, sA, sB, sC]
    refine tk 9 hSa ?_
    try simp only [Act.put, sA, sB, sC]
    refine tk 10 hSa ?_ (hy := by intro _ w; have ck5 := k5 _ w; go_simp <;> with_reducible rfl)
    try simp only [Act.put, sA, sB, sC]
    refine on1 11 fun K hK => ?_
    go_simp
    refine (st_qsum (HL5.out.fr0 (KeptF.fr hSa)) j (L3.getj hjk jl) tab col HG.out HFE.out hN).mono ?_
    rintro e w6 ⟨rfl, hf6⟩
    have hSb := KeptF.next hSa hf6
    refine hK.out _ _ hSb ?_
    clear hK K
    try simp only [Act.put, sA, sB, sC]
    refine tk 12 hSb ?_
    try simp only [Act.put, sA, sB, sC]
    have HL6 := Lib.hid (HL5.out.fr0 (KeptF.fr hSb))
    obtain ⟨vb2, vcap2, e2, d3, d4, d5, d6⟩ := HL6.out.dbox i (L3.geti hij hik il) m hm
    obtain ⟨rfl, rfl⟩ : vb2 = vvb ∧ vcap2 = vcap := by
     have e3 := k20 _ hSb
     rw [d3] at e3
     simp only [Option.some.injEq, Value.slice.injEq, Addr.mk.injEq, and_true, true_and] at e3
     exact e3
    have D6 := Lib.hid d6
    refine wpAnyS_last (i := 13) rfl (by kernel_rfl) (by decide) (by kernel_rfl) (by rfl) fun K hK => ?_
    clear d6 e2 d3
    go_simp
    refine hK.out _ _ ?_
    clear hK K d4 d5 k20 k3 k5 k6 hSa hSb hf6
    have h8 := D6.out (msum (mtab M tab) col)
    rw [L3.seti hij hik] at h8
    have HL8 := Lib.hid h8
    clear h8
    go_wp2_with fail
    go_meet
    case rel => exact ⟨DoneR.mk (ov := q.ov) HL8.out (by simp [doV]) (by simp [doO]) (by simp [doM]), fun h => absurd h (by decide)⟩
   ·have hv0 := HOK.out.var (.inr (.inr (.inl rfl)))
    simp only at hv0
    obtain ⟨m, rfl⟩ : ∃ m : Nat, var = (m : Int) := ⟨var.toNat, by omega⟩
    have hm : m < q.vars.length := by rw [HF.out.len]; omega
    clear hv0
    obtain ⟨vvb, vcap, _, c3, _⟩ := HL5.out.dbox i (L3.geti hij hik il) m hm
    have k20 := KeptF.cell c3
    clear c3
    have h1v : 0 < vals.length := by have := HOK.out.one (.inr (.inl rfl)); simp only at this; omega
    obtain ⟨xb, xoff, xa, xc, rfl, hx0, hxt⟩ := HV5.out.get 0 h1v
    have hxl : (vals.getD 0 []).length ≤ 100000 := by
     rw [List.getD_eq_getElem?_getD, List.getElem?_eq_getElem h1v]
     exact HFT.out.2 _ (List.getElem_mem h1v)
    have HXT := Lib.hid hxt
    simp only [Nat.add_zero] at hx0
    have kx0 := KeptF.cell hx0
    generalize hxg : vals.getD 0 [] = x at *
    have HXG := Lib.hid hxg
    clear hx0 hxt hxg
    have k6 := KeptF.cell (w0 := wc) (show wc.cell? ⟨bn, 6, none⟩ = some _ from (HPW.out _ _ _ _ HL5.out).2.cell 6)
    have k12 := KeptF.cell (w0 := wc) (show wc.cell? ⟨bn, 12, none⟩ = some _ from (HPW.out _ _ _ _ HL5.out).2.cell 12)
    go_wp2_with fail
    refine wp_region_sink 13 (KeptF wc) (by kernel_rfl) ?_
    have hSa : KeptF wc wc.drew := KeptF.start _
    refine tk 0 hSa ?_
    refine tk 1 hSa ?_
    refine tk 2 hSa ?_
    try simp only [Act.put, sA, sB, sC]
    refine tk 3 hSa ?_ (hy := by intro _ w; have ck20 := k20 _ w; go_simp <;> with_reducible rfl)
    try simp only [Act.put, sA, sB, sC]
    refine tk 4 hSa ?_
    try simp only [Act.put, sA, sB, sC]
    refine tk 5 hSa ?_ (hy := by intro _ w; have ck6 := k6 _ w; go_simp <;> with_reducible rfl)
    try simp only [Act.put, sA, sB, sC]
    refine tk 6 hSa ?_
    refine tk 7 hSa ?_
    try simp only [Act.put, sA, sB, sC]
    refine tk 8 hSa ?_ (hy := by intro _ w; have ck12 := k12 _ w; go_simp <;> with_reducible rfl)
    try simp only [Act.put, sA, sB, sC]
    refine tk 9 hSa ?_
    try simp only [Act.put, sA, sB, sC]
    refine tk 10 hSa ?_ (hy := by intro _ w; have ckx0 := kx0 _ w; go_simp <;> with_reducible rfl)
    try simp only [Act.put, sA, sB, sC]
    refine on1 11 fun K hK => ?_
    go_simp
    refine (dvalue_any q _ x _ ((HL5.out.fr0 (KeptF.fr hSa)).dstR i (L3.geti hij hik il)) (HXT.out.fr0 (KeptF.fr hSa)) hxl (by rw [HF.out.len]; have := HF.out.le; omega)).mono ?_
    rintro e w6 ⟨rfl, hf6⟩
    have hSb := KeptF.next hSa hf6
    refine hK.out _ _ hSb ?_
    clear hK K
    try simp only [Act.put, sA, sB, sC]
    refine tk 12 hSb ?_
    try simp only [Act.put, sA, sB, sC]
    have HL6 := Lib.hid (HL5.out.fr0 (KeptF.fr hSb))
    obtain ⟨vb2, vcap2, e2, d3, d4, d5, d6⟩ := HL6.out.dbox i (L3.geti hij hik il) m hm
    obtain ⟨rfl, rfl⟩ : vb2 = vvb ∧ vcap2 = vcap := by
     have e3 := k20 _ hSb
     rw [d3] at e3
     simp only [Option.some.injEq, Value.slice.injEq, Addr.mk.injEq, and_true, true_and] at e3
     exact e3
    have D6 := Lib.hid d6
    refine wpAnyS_last (i := 13) rfl (by kernel_rfl) (by decide) (by kernel_rfl) (by rfl) fun K hK => ?_
    clear d6 e2 d3
    go_simp
    refine hK.out _ _ ?_
    clear hK K d4 d5 k20 k6 k12 kx0 hSa hSb hf6
    have h8 := D6.out (valP q.vars x)
    rw [L3.seti hij hik] at h8
    have HL8 := Lib.hid h8
    clear h8
    go_wp2_with fail
    go_meet
    case rel => exact ⟨DoneR.mk (ov := q.ov) HL8.out (by unfold doV; rw [if_neg (by simp), if_neg (by simp), if_pos rfl, HXG.out]; rfl) (by simp [doO]) (by simp [doM]), fun h => absurd h (by decide)⟩
   ·have h1v : 0 < vals.length := by have := HOK.out.one (.inr (.inr rfl)); simp only at this; omega
    obtain ⟨xb, xoff, xa, xc, rfl, hx0, hxt⟩ := HV5.out.get 0 h1v
    have hxl : (vals.getD 0 []).length ≤ 100000 := by
     rw [List.getD_eq_getElem?_getD, List.getElem?_eq_getElem h1v]
     exact HFT.out.2 _ (List.getElem_mem h1v)
    have HXT := Lib.hid hxt
    simp only [Nat.add_zero] at hx0
    generalize hxg : vals.getD 0 [] = x at *
    have HXG := Lib.hid hxg
    have HX0 := Lib.hid hx0
    clear hx0 hxt hxg
    obtain ⟨oa, oc, eo⟩ := (HL5.out.dst i (L3.geti hij hik il)).2.2.1.shape
    have HE := Lib.hid eo
    have HOV : Hid (∀ k, q.ov.ownBlock = some k → k < wc.heap.size ∧ k ≠ q.sb ∧ k ≠ bn) := by
     obtain ⟨S, T, ⟨C, a1, a2⟩, a3, a4, _⟩ := HL5.out.get2 i (l.length + 1) _ _ (L3.geti hij hik il) (by rw [L3.get (by omega) (by omega) (by omega)]; exact HGP.out) (by omega)
     exact Lib.hid fun k hk => ⟨a1.out.lt k hk, (a1.co k hk).2, fun e => a4 k ((a2 k).2 (.inr (.inr (.inl hk)))) ((a3.2 k).2 (.inr e))⟩
    have hbnlt : bn < wc.heap.size := (HPW.out _ _ _ _ HL5.out).2.lt
    have c4 := (HL5.out.dst i (L3.geti hij hik il)).1.cell 3
    simp only [DStV.cs, List.getElem?_cons_zero, List.getElem?_cons_succ] at c4
    rw [eo] at c4
    have c12 : wc.cell? ⟨bn, 12, none⟩ = some _ := (HPW.out _ _ _ _ HL5.out).2.cell 12
    have f4 := (HL5.out.dst i (L3.geti hij hik il)).1.free 3
    have C4 := Lib.hid c4
    have C12 := Lib.hid c12
    have F4 := Lib.hid f4
    clear c4 c12 f4 eo
    go_wp2_with fail
    refine wp_region_sink 15 (fun w : World => w.cell? ⟨q.sb, 3, none⟩ = some (.slice oa q.out.length oc) ∧ w.cell? ⟨bn, 12, none⟩ = some (.slice (some ⟨xb, xoff, none⟩) vals.length vc)) (by kernel_rfl) ?_
    have hSa : (fun w : World => w.cell? ⟨q.sb, 3, none⟩ = some (.slice oa q.out.length oc) ∧ w.cell? ⟨bn, 12, none⟩ = some (.slice (some ⟨xb, xoff, none⟩) vals.length vc)) wc.drew := ⟨C4.out, C12.out⟩
    have k4 := fun (w : World) (h : (fun w : World => w.cell? ⟨q.sb, 3, none⟩ = some (.slice oa q.out.length oc) ∧ w.cell? ⟨bn, 12, none⟩ = some (.slice (some ⟨xb, xoff, none⟩) vals.length vc)) w) => h.1
    have k12 := fun (w : World) (h : (fun w : World => w.cell? ⟨q.sb, 3, none⟩ = some (.slice oa q.out.length oc) ∧ w.cell? ⟨bn, 12, none⟩ = some (.slice (some ⟨xb, xoff, none⟩) vals.length vc)) w) => h.2
    refine tk 0 hSa ?_
    refine tk 1 hSa ?_
    refine tk 2 hSa ?_
    refine tk 3 hSa ?_
    try simp only [Act.put, sA, sB, sC]
    refine tk 4 hSa ?_ (hy := by intro _ w; have ck4 := k4 _ w; go_simp <;> with_reducible rfl)
    try simp only [Act.put, sA, sB, sC]
    refine tk 5 hSa ?_
    refine tk 6 hSa ?_
    try simp only [Act.put, sA, sB, sC]
    refine tk 7 hSa ?_ (hy := by intro _ w; have ck12 := k12 _ w; go_simp <;> with_reducible rfl)
    try simp only [Act.put, sA, sB, sC]
    refine tk 8 hSa ?_
    try simp only [Act.put, sA, sB, sC]
    refine on1 9 fun K hK => ?_
    have c0 := (Fr.refl wc Nil).drew.cell HX0.out fun h => h
    go_simp
    refine hK.out _ _ hSa ?_
    clear hK K c0
    try simp only [Act.put, sA, sB, sC]
    refine on1 10 fun K hK => ?_
    go_simp
    refine (dvalue_any q _ x _ ((HL5.out.fr0 (Fr.refl wc Nil).drew).dstR i (L3.geti hij hik il)) (HXT.out.fr0 (Fr.refl wc Nil).drew) hxl (by rw [HF.out.len]; have := HF.out.le; omega)).mono ?_
    rintro e w6 ⟨rfl, hf6⟩
    have hSb : (fun w : World => w.cell? ⟨q.sb, 3, none⟩ = some (.slice oa q.out.length oc) ∧ w.cell? ⟨bn, 12, none⟩ = some (.slice (some ⟨xb, xoff, none⟩) vals.length vc)) w6 := ⟨hf6.cell C4.out fun h => h, hf6.cell C12.out fun h => h⟩
    refine hK.out _ _ hSb ?_
    clear hK K
    try simp only [Act.put, sA, sB, sC]
    obtain ⟨y, hy⟩ : ∃ y, y = valP q.vars x := ⟨_, rfl⟩
    rw [← hy]
    have HY := Lib.hid hy
    clear hy
    refine on1 11 fun K hK => ?_
    go_simp
    have hf7 : Fr wc (w6.alloc (.cells #[.int .i64 y] 2)) Nil := (((Fr.refl wc Nil).drew).trans0 hf6).alloc _
    have hSc : (fun w : World => w.cell? ⟨q.sb, 3, none⟩ = some (.slice oa q.out.length oc) ∧ w.cell? ⟨bn, 12, none⟩ = some (.slice (some ⟨xb, xoff, none⟩) vals.length vc)) (w6.alloc (.cells #[.int .i64 y] 2)) := ⟨hf7.cell C4.out fun h => h, hf7.cell C12.out fun h => h⟩
    refine hK.out _ _ hSc ?_
    clear hK K
    try simp only [Act.put, sA, sB, sC]
    have HL7 := Lib.hid (HL5.out.fr0 hf7)
    have ho7 := (HL7.out.dst i (L3.geti hij hik il)).2.2.1
    rw [HE.out] at ho7
    refine on1 12 fun K hK => ?_
    refine wp_app (P := Tryz.prog) _ _ _ 24 rfl Tryz.sltRun _ rfl ho7 _ rfl (slone w6 _ y) (by simp [Value.oneCell']) (by omega) ?_
    intro g cap2 W1 ho hgr hat
    have hfg : Fr (w6.alloc (.cells #[.int .i64 y] 2)) W1 (fun k => q.ov.ownBlock = some k) := (Fr.refl _ _).grown hgr fun k hk _ => by rw [HE.out]; exact hk
    have hbk := ((HL7.out.dst i (L3.geti hij hik il)).1).fr hfg (fun e => (HOV.out _ e).2.1 rfl)
    have hSd : (fun w : World => w.cell? ⟨q.sb, 3, none⟩ = some (.slice oa q.out.length oc) ∧ w.cell? ⟨bn, 12, none⟩ = some (.slice (some ⟨xb, xoff, none⟩) vals.length vc)) W1 := ⟨hfg.cell hSc.1 fun e => (HOV.out _ e).2.1 rfl, hfg.cell hSc.2 fun e => (HOV.out _ e).2.2 rfl⟩
    refine hK.out _ _ hSd ?_
    clear hK K
    try simp only [Act.put, sA, sB, sC]
    refine tk 13 hSd ?_
    refine tk 14 hSd ?_
    try simp only [Act.put, sA, sB, sC]
    have c4 := hSd.1
    have f4 := hbk.free 3
    have h8 := HL7.out.dstOut i (L3.geti hij hik il) y (own_snocI ho) hfg (hat.imp (fun e => by rw [HE.out]; exact e) fun e k hk => by rw [e] at hk; cases hk; exact Nat.le_refl _)
    rw [L3.seti hij hik] at h8
    have HL8 := Lib.hid h8
    clear h8
    refine wpAnyS_last (i := 15) rfl (by kernel_rfl) (by decide) (by kernel_rfl) (by rfl) fun K hK => ?_
    go_simp
    refine hK.out _ _ ?_
    clear hK K c4 f4 hSa hSb hSc hSd k4 k12 hf6 hf7 ho7 ho hgr hat hfg hbk
    go_wp2_with fail
    go_meet
    case rel => exact ⟨DoneR.mk HL8.out (by simp [doV]) (by unfold doO; rw [if_pos rfl, HXG.out, ← HY.out]) (by simp [doM]), fun h => absurd h (by decide)⟩
  case rest =>
   obtain ⟨⟨ov, h6⟩, hvc⟩ := hcut
   have HVC := Lib.hid hvc
   clear hvc
   obtain ⟨vs, hvs⟩ : ∃ vs, vs = doV ⟨op, node, mode, tab, row, col, var, dst, eq, fro, upto, key, vals⟩ q.vars M := ⟨_, rfl⟩
   obtain ⟨os, hos⟩ : ∃ os, os = doO ⟨op, node, mode, tab, row, col, var, dst, eq, fro, upto, key, vals⟩ q.vars q.out := ⟨_, rfl⟩
   obtain ⟨M6, hM6⟩ : ∃ M6, M6 = doM ⟨op, node, mode, tab, row, col, var, dst, eq, fro, upto, key, vals⟩ q.vars M := ⟨_, rfl⟩
   have HVS := Lib.hid hvs
   have HOS := Lib.hid hos
   have HM6 := Lib.hid hM6
   rw [← hvs, ← hos, ← hM6] at h6
   have HL6 := Lib.hid h6
   have HVL : Hid (vs.length = q.vars.length) := Lib.hid (by rw [hvs]; exact doV_len _ _)
   clear hvs hos hM6 h6 HL5 HV5
   skip
   have y0 := (HPW.out _ _ _ _ HL6.out).2.cell 0
   have y1 := (HPW.out _ _ _ _ HL6.out).2.cell 1
   have y2 := (HPW.out _ _ _ _ HL6.out).2.cell 2
   have y3 := (HPW.out _ _ _ _ HL6.out).2.cell 3
   have y4 := (HPW.out _ _ _ _ HL6.out).2.cell 4
   have y5 := (HPW.out _ _ _ _ HL6.out).2.cell 5
   have y6 := (HPW.out _ _ _ _ HL6.out).2.cell 6
   have y7 := (HPW.out _ _ _ _ HL6.out).2.cell 7
   have y8 := (HPW.out _ _ _ _ HL6.out).2.cell 8
   have y9 := (HPW.out _ _ _ _ HL6.out).2.cell 9
   have y10 := (HPW.out _ _ _ _ HL6.out).2.cell 10
   have y11 := (HPW.out _ _ _ _ HL6.out).2.cell 11
   have y12 := (HPW.out _ _ _ _ HL6.out).2.cell 12
   simp only [List.getElem?_cons_zero, List.getElem?_cons_succ] at y0 y1 y2 y3 y4 y5 y6 y7 y8 y9 y10 y11 y12
   go_wp2_with fail
   refine (dmoves_any HL6.out i (L3.geti hij hik il) ⟨op, node, mode, tab, row, col, var, dst, eq, fro, upto, key, vals⟩ (.slice ka key.length kc) (.slice va vals.length vc) ⟨_, _, rfl⟩ ⟨_, _, rfl⟩ HVC.out HFT.out (by show vs.length ≤ _; rw [HVL.out, HF.out.len]; exact HF.out.le) (by show q.at' < _; omega) (by show IOk TB vs.length q.L.length _; rw [HVL.out, HF.out.len]; exact HOK.out)).mono ?_
   rintro e w7 ⟨he, h7⟩
   rw [L3.seti hij hik] at h7
   simp only at he h7
   obtain ⟨v7, hv7⟩ : ∃ v7, v7 = (onP ⟨op, node, mode, tab, row, col, var, dst, eq, fro, upto, key, vals⟩ vs).1 := ⟨_, rfl⟩
   obtain ⟨o7, ho7⟩ : ∃ o7, o7 = (onP ⟨op, node, mode, tab, row, col, var, dst, eq, fro, upto, key, vals⟩ vs).2 := ⟨_, rfl⟩
   have hn7 := nextAt_is o7 q.at' (fun t ht => by
    have hd := onP_dst (n := ⟨op, node, mode, tab, row, col, var, dst, eq, fro, upto, key, vals⟩) (vars := vs) (t := t) (by rw [← ho7]; exact ht)
    have h9 := (HOK.out.dst ⟨hd.2.1, hd.2.2⟩).1
    rw [hd.1]
    exact h9)
   obtain ⟨a7, ha7⟩ : ∃ a7 : Nat, a7 = atN o7 q.at' := ⟨_, rfl⟩
   rw [← ha7] at hn7
   rw [← ho7, hn7] at he
   rw [← hv7] at h7
   subst he
   have HL7 := Lib.hid h7
   have hr8 : r = (⟨1, wt, wr, wy, wm, wto, wwr⟩, 0, ⟨a7, v7, os, M6, lg2⟩) := by
    rw [HR5.out]
    unfold wentP
    simp only
    rw [← HVS.out, ← HOS.out, ← HM6.out, ← hv7, ← ho7, ha7]
    rfl
   have HR8 := Lib.hid hr8
   clear h7 hr8 hn7 ha7 hv7 ho7 y0 y1 y2 y3 y4 y5 y6 y7 y8 y9 y10 y11 y12
   have b2 := (HL7.out.dstR i (L3.geti hij hik il)).box.cell 1
   have bf := (HL7.out.dstR i (L3.geti hij hik il)).box.free 1
   simp only [DStV.cs, List.getElem?_cons_zero, List.getElem?_cons_succ] at b2
   go_upto_region 34 with (fail)
   have h8 := HL7.out.dstAt i (L3.geti hij hik il) a7 (a7 : Int) rfl
   rw [L3.seti hij hik] at h8
   obtain ⟨w8, hw8⟩ : ∃ w8, w8 = w7.setCell ⟨q.sb, 1, none⟩ (.int .i64 (a7 : Int)) := ⟨_, rfl⟩
   rw [← hw8] at h8 ⊢
   have HL8 := Lib.hid h8
   clear h8 hw8 b2 bf
   have x0 := (HPW.out _ _ _ _ HL8.out).1.cell 0
   have x1 := (HPW.out _ _ _ _ HL8.out).1.cell 1
   have x2 := (HPW.out _ _ _ _ HL8.out).1.cell 2
   have x3 := (HPW.out _ _ _ _ HL8.out).1.cell 3
   have x4 := (HPW.out _ _ _ _ HL8.out).1.cell 4
   have x5 := (HPW.out _ _ _ _ HL8.out).1.cell 5
   have x6 := (HPW.out _ _ _ _ HL8.out).1.cell 6
   simp only [List.getElem?_cons_zero, List.getElem?_cons_succ] at x0 x1 x2 x3 x4 x5 x6
   have z0 : w8.cell? ⟨b8, 0, none⟩ = some (.int .u8 0) := (HPB.out _ _ _ _ HL8.out).cell 0
   have z1 : w8.cell? ⟨b8, 1, none⟩ = some (.int .i64 0) := (HPB.out _ _ _ _ HL8.out).cell 1
   have z2 : w8.cell? ⟨b8, 2, none⟩ = some (.bool false) := (HPB.out _ _ _ _ HL8.out).cell 2
   have z3 : w8.cell? ⟨b8, 3, none⟩ = some (.int .i64 0) := (HPB.out _ _ _ _ HL8.out).cell 3
   have z4 : w8.cell? ⟨b8, 4, none⟩ = some (.int .u8 0) := (HPB.out _ _ _ _ HL8.out).cell 4
   have z5 : w8.cell? ⟨b8, 5, none⟩ = some (.bool false) := (HPB.out _ _ _ _ HL8.out).cell 5
   have z6 : w8.cell? ⟨b8, 6, none⟩ = some (.bool false) := (HPB.out _ _ _ _ HL8.out).cell 6
   have s8 := (HPB.out _ _ _ _ HL8.out).free
   go_wp2_with fail
   refine set7_world (HPB.out _ _ _ _ HL8.out) ?_
   intro w9 hb9 hf9
   have HLF := Lib.hid (step_fin (by rw [← HL2E.out]; exact HL8.out) hil hjl hkl (by rw [← HL2E.out]; exact HGB.out) hb9 hf9)
   have t0 := hb9.cell 0
   have t1 := hb9.cell 1
   have t2 := hb9.cell 2
   have t3 := hb9.cell 3
   have t4 := hb9.cell 4
   have t5 := hb9.cell 5
   have t6 := hb9.cell 6
   simp only [List.getElem?_cons_zero, List.getElem?_cons_succ] at t0 t1 t2 t3 t4 t5 t6
   clear hb9 hf9 x0 x1 x2 x3 x4 x5 x6 s8 z0 z1 z2 z3 z4 z5 z6
   go_wp2_with fail
   exact bodyPost_ret (v := .tuple #[(⟨1, wt, wr, wy, wm, wto, wwr⟩ : WantD).val, .int .i64 0]) (by simp [results, Tryz.results22, go_sem, t0, t1, t2, t3, t4, t5, t6]; try rfl) rfl ⟨by rw [HR8.out]; rfl, ov, by rw [HR8.out]; exact HLF.out⟩
end
end Go.Proofs.YtgpekgnhbccnoaaGreat
namespace Go.Proofs.YtgpekgnhbccnoaaGreat
open Go Go.RowKit
attribute [local go_sem ↓] Go.wp_at_zero Go.wp_at_succ
section
variable {w0 W : World} {l : List Thing} {q : DStV} {M : List MTab} {qb vb : Nat} {most : Int} {lg : List (Int × Ent)}
set_option maxRecDepth 100000 in
set_option maxHeartbeats 16000000 in
theorem dstep_c (h : Lies w0 W l) (i j k : Nat) (hi : l[i]? = some (dstT q)) (hj : l[j]? = some (refM qb M)) (hk : l[k]? = some (dlogT vb most lg)) (hij : i ≠ j) (hik : i ≠ k) (hjk : j ≠ k) (TB : List Int) (nv : Nat) (hf : DStF q TB nv) (n : InstrD) (hn : q.L[q.at']? = some n) (hg : Good M) {N : Nat} (hfe : Few N M) (hN : N < 1000) (hc : colsN M = TB) (who : Int) (hll : lg.length ≤ 100000) (hol : q.out.length ≤ 100000) (h100 : q.L.length ≤ 100000) (hgr : n.op = 10 ∨ n.op = 11 ∨ n.op = 12 ∨ n.op = 13) :
  Calls Tryz.prog 22 #[.pointer (some ⟨q.sb, 0, none⟩), .int .i64 who, rptr qb, rptr vb] W (DStepRet w0 l i j k q qb vb most (stepM q.L most who ⟨q.at', q.vars, q.out, M, lg⟩)) := by
 have hall := And.intro hij (And.intro hik (And.intro hjk (And.intro hN (And.intro hll (And.intro hol h100)))))
 clear hall
 obtain ⟨iI, hiI, hsI⟩ := info_size Tryz.infoDI
 have hLl := hf.few.1
 have hat := hf.at'
 have hil := (List.getElem?_eq_some_iff.1 hi).1
 have hjl := (List.getElem?_eq_some_iff.1 hj).1
 have hkl := (List.getElem?_eq_some_iff.1 hk).1
 have HGN : Hid (q.L.getD q.at' default = n) := Lib.hid (by rw [List.getD_eq_getElem?_getD, hn]; rfl)
 obtain ⟨r, hr⟩ : ∃ r, r = stepM q.L most who ⟨q.at', q.vars, q.out, M, lg⟩ := ⟨_, rfl⟩
 rw [← hr]
 have HR := Lib.hid hr
 obtain ⟨w1, hw1⟩ : ∃ w1, w1 = W.alloc (.cells wantZ 52) := ⟨_, rfl⟩
 obtain ⟨b8, hb8⟩ : ∃ b8, b8 = W.heap.size := ⟨_, rfl⟩
 have HL1 : Hid (Lies w0 w1 (l ++ [bkT b8 52 wantZ.toList])) := by rw [hw1, hb8]; exact Lib.hid (h.newBk _ _)
 have HI1 : Hid ((l ++ [bkT b8 52 wantZ.toList])[i]? = some (dstT q)) := Lib.hid (by rw [List.getElem?_append_left hil]; exact hi)
 have HW1 := Lib.hid hw1
 have HB8 := Lib.hid hb8
 have HI := Lib.hid hi
 have HJ := Lib.hid hj
 have HK := Lib.hid hk
 have HF := Lib.hid hf
 have HN := Lib.hid hn
 have HG := Lib.hid hg
 have HFE := Lib.hid hfe
 have HC := Lib.hid hc
 obtain ⟨x, hx⟩ : ∃ x, x = nextP n q.vars := ⟨_, rfl⟩
 have HX := Lib.hid hx
 have HNX := Lib.hid (dnext_any q TB nv n w1 (HL1.out.dstR i HI1.out) hf hn)
 rw [← hx] at HNX
 clear h hi hj hk hf hn hg hfe hc hw1 hb8 hr hx
 obtain ⟨wk, wt, wr, wy, wm, wto, wwr⟩ := x
 simp only [WantD.val] at HNX
 go_enter Tryz.func22, Tryz.ntmps22
 go_wp2_with fail
 rw [← HW1.out, ← HB8.out]
 refine HNX.out.mono ?_
 rintro e w2 ⟨he, hf2⟩
 subst he
 have HL2 := Lib.hid (HL1.out.fr0 hf2)
 clear hf2 HNX
 go_upto_region 2 with (fail)
 obtain ⟨bw, hbw⟩ : ∃ bw, bw = w2.heap.size := ⟨_, rfl⟩
 obtain ⟨w3, hw3⟩ : ∃ w3, w3 = w2.alloc (.cells #[.int .u8 wk, .int .i64 wt, .bool wr, .int .i64 wy, .int .u8 wm, .bool wto, .bool wwr] 52) := ⟨_, rfl⟩
 have HBW : Hid (Bk w3 bw 52 [.int .u8 wk, .int .i64 wt, .bool wr, .int .i64 wy, .int .u8 wm, .bool wto, .bool wwr]) := by rw [hw3, hbw]; exact Lib.hid (Bk.new w2 _ _)
 have HF3 : Hid (Fr w2 w3 Nil) := by rw [hw3]; exact Lib.hid ((Fr.refl w2 Nil).alloc _)
 have HBS := Lib.hid hbw
 rw [← hw3, ← hbw]
 clear hw3 hbw
 have HL3 := Lib.hid (HL2.out.fr0 HF3.out)
 have HOK : Hid (IOk TB nv q.L.length n) := Lib.hid (HF.out.ok.all _ _ HN.out)
 have hk1 : wk = 1 := by
  have h9 := (nextP_kind q.vars HOK.out.lo HOK.out.hi).2 (by omega)
  rw [← HX.out] at h9
  exact h9
 subst hk1
 have b0 := (HL3.out.dstR i HI1.out).box.cell 0
 have b1 := (HL3.out.dstR i HI1.out).box.cell 1
 simp only [DStV.cs, List.getElem?_cons_zero, List.getElem?_cons_succ] at b0 b1
 obtain ⟨b, off, cap, hlv, hlc⟩ := (HL3.out.dstR i HI1.out).code.form (by omega)
 have HLV := Lib.hid hlv
 rw [hlv] at b0
 obtain ⟨ka, kc, va, vc, hkt, hvt, p0, p1, p2, p3, p4, p5, p6, p7, p8, p9, p10, p11, p12⟩ := (hlc q.at' n HN.out).cell
 have HKT := Lib.hid hkt
 have HVT := Lib.hid hvt
 have HP11 := Lib.hid p11
 have HP12 := Lib.hid p12
 have k0 := KeptF.cell b0
 have k1 := KeptF.cell b1
 have j0 := KeptF.cell p0
 have j1 := KeptF.cell p1
 have j2 := KeptF.cell p2
 have j3 := KeptF.cell p3
 have j4 := KeptF.cell p4
 have j5 := KeptF.cell p5
 have j6 := KeptF.cell p6
 have j7 := KeptF.cell p7
 have j8 := KeptF.cell p8
 have j9 := KeptF.cell p9
 have j10 := KeptF.cell p10
 have j11 := KeptF.cell p11
 have j12 := KeptF.cell p12
 clear hlc hlv hkt hvt b0 b1 p0 p1 p2 p3 p4 p5 p6 p7 p8 p9 p10 p11 p12
 obtain ⟨op, node, mode, tab, row, col, var, dst, eq, fro, upto, key, vals⟩ := n
 simp only at HKT HVT HP11 HP12 hgr j0 j1 j2 j3 j4 j5 j6 j7 j8 j9 j10 j11 j12
 have w0c : w3.cell? ⟨bw, 0, none⟩ = some _ := HBW.out.cell 0
 go_wp2_with fail
 clear w0c
 refine wp_region_sink 11 (KeptF w3) (by kernel_rfl) ?_
 have hS0 : KeptF w3 w3.drew := KeptF.start _
 refine tk 0 hS0 ?_
 refine tk 1 hS0 ?_
 refine tk 2 hS0 ?_
 try simp only [Act.put, sA, sB, sC]
 refine tk 3 hS0 ?_ (hy := by intro _ w; have ck0 := k0 _ w; go_simp <;> with_reducible rfl)
 try simp only [Act.put, sA, sB, sC]
 refine tk 4 hS0 ?_
 refine tk 5 hS0 ?_
 refine tk 6 hS0 ?_
 try simp only [Act.put, sA, sB, sC]
 refine tk 7 hS0 ?_ (hy := by intro _ w; have ck1 := k1 _ w; go_simp <;> with_reducible rfl)
 try simp only [Act.put, sA, sB, sC]
 refine tk 8 hS0 ?_
 try simp only [Act.put, sA, sB, sC]
 refine tk 9 hS0 ?_ (hy := by intro _ w; have cj0 := j0 _ w; have cj1 := j1 _ w; have cj2 := j2 _ w; have cj3 := j3 _ w; have cj4 := j4 _ w; have cj5 := j5 _ w; have cj6 := j6 _ w; have cj7 := j7 _ w; have cj8 := j8 _ w; have cj9 := j9 _ w; have cj10 := j10 _ w; have cj11 := j11 _ w; have cj12 := j12 _ w; go_simp <;> with_reducible rfl)
 try simp only [Act.put, sA, sB, sC]
 refine on1 10 fun K hK => ?_
 go_simp
 have hS1 := KeptF.next hS0 ((Fr.refl _ Nil).alloc (.cells #[.int .u8 0, .int .i64 0, .int .u8 0, .int .i64 0, .bool false, .int .i64 0, .int .i64 0, .int .i64 0, .bool false, .int .i64 0, .int .i64 0, .slice none 0 0, .slice none 0 0] 97))
 refine hK.out _ _ hS1 ?_
 clear hK K
 try simp only [Act.put, sA, sB, sC]
 refine wpAnyS_last (i := 11) rfl (by kernel_rfl) (by decide) (by kernel_rfl) (by rfl) fun K hK => ?_
 refine wp_store_bk 97 _ _ rfl _ _ _ [.int .u8 op, .int .i64 node, .int .u8 mode, .int .i64 tab, .bool row, .int .i64 col, .int .i64 var, .int .i64 dst, .bool eq, .int .i64 fro, .int .i64 upto, .slice ka key.length kc, .slice va vals.length vc] _ rfl rfl rfl iI hiI hsI (Bk.new w3.drew 97 #[.int .u8 0, .int .i64 0, .int .u8 0, .int .i64 0, .bool false, .int .i64 0, .int .i64 0, .int .i64 0, .bool false, .int .i64 0, .int .i64 0, .slice none 0 0, .slice none 0 0]) rfl (by simp [Value.oneCell']) ?_
 intro w4 hb4 hf4
 refine hK.out _ _ ?_
 clear hK K
 have HF4 : Hid (Fr w3 w4 Nil) := Lib.hid (KeptF.fr (KeptF.store hS1 hf4 (Nat.le_refl _)))
 obtain ⟨bn, hbn⟩ : ∃ bn, bn = w3.heap.size := ⟨_, rfl⟩
 have HBN := Lib.hid (show bn = w3.heap.size from hbn)
 rw [← hbn] at hb4 ⊢
 have HB4 := Lib.hid hb4
 clear hb4 hf4 hS0 hS1 k0 k1 hbn j0 j1 j2 j3 j4 j5 j6 j7 j8 j9 j10 j11 j12
 obtain ⟨l2, hl2⟩ : ∃ l2, l2 = l ++ [bkT b8 52 wantZ.toList, pairT bw bn 52 97 [.int .u8 1, .int .i64 wt, .bool wr, .int .i64 wy, .int .u8 wm, .bool wto, .bool wwr] [.int .u8 op, .int .i64 node, .int .u8 mode, .int .i64 tab, .bool row, .int .i64 col, .int .i64 var, .int .i64 dst, .bool eq, .int .i64 fro, .int .i64 upto, .slice ka key.length kc, .slice va vals.length vc]] := ⟨_, rfl⟩
 have HL2E := Lib.hid hl2
 have il : i < l2.length := by rw [hl2, List.length_append]; omega
 have jl : j < l2.length := by rw [hl2, List.length_append]; omega
 have kl : k < l2.length := by rw [hl2, List.length_append]; omega
 have HGB : Hid (l2[l.length]? = some (bkT b8 52 wantZ.toList)) := Lib.hid (by rw [hl2]; simp)
 have HGP : Hid (l2[l.length + 1]? = some (pairT bw bn 52 97 [.int .u8 1, .int .i64 wt, .bool wr, .int .i64 wy, .int .u8 wm, .bool wto, .bool wwr] [.int .u8 op, .int .i64 node, .int .u8 mode, .int .i64 tab, .bool row, .int .i64 col, .int .i64 var, .int .i64 dst, .bool eq, .int .i64 fro, .int .i64 upto, .slice ka key.length kc, .slice va vals.length vc])) := Lib.hid (by rw [hl2, List.getElem?_append_right (by omega), Nat.add_sub_cancel_left]; rfl)
 have HLx : Hid (Lies w0 w4 (L3 l2 i j k (dstT q) (refM qb M) (dlogT vb most lg))) := by
  have e1 : l2[i]? = some (dstT q) := by rw [hl2, List.getElem?_append_left hil]; exact HI.out
  have e2 : l2[j]? = some (refM qb M) := by rw [hl2, List.getElem?_append_left hjl]; exact HJ.out
  have e3 : l2[k]? = some (dlogT vb most lg) := by rw [hl2, List.getElem?_append_left hkl]; exact HK.out
  rw [L3.self e1 e2 e3, hl2]
  have h9 := HL2.out.add (pairT bw bn 52 97 [.int .u8 1, .int .i64 wt, .bool wr, .int .i64 wy, .int .u8 wm, .bool wto, .bool wwr] [.int .u8 op, .int .i64 node, .int .u8 mode, .int .i64 tab, .bool row, .int .i64 col, .int .i64 var, .int .i64 dst, .bool eq, .int .i64 fro, .int .i64 upto, .slice ka key.length kc, .slice va vals.length vc]) (W' := w4) (S := fun k => k = bw ∨ k = bn) ⟨⟨HBW.out.fr HF4.out fun h => h, HB4.out⟩, fun _ => Iff.rfl⟩ (fun k hk => hk.elim (fun e => by rw [e, HBS.out]; exact Nat.le_refl _) fun e => by rw [e, HBN.out]; exact HF3.out.size) (HF3.out.trans0 HF4.out)
  rw [List.append_assoc] at h9
  exact Lib.hid h9
 have HKTx := Lib.hid (HKT.out.fr0 HF4.out)
 have HVTx := Lib.hid (HVT.out.fr0 HF4.out)
 have HP11x := Lib.hid (HF4.out.cell HP11.out fun h => h)
 have HP12x := Lib.hid (HF4.out.cell HP12.out fun h => h)
 clear HB4 hl2 HKT HVT HP11 HP12 HL1 HL2 HL3 HBN HBS HF3 HBW
 have HPW : Hid (∀ (w : World) (x y z : Thing), Lies w0 w (L3 l2 i j k x y z) → Bk w bw 52 [.int .u8 1, .int .i64 wt, .bool wr, .int .i64 wy, .int .u8 wm, .bool wto, .bool wwr] ∧ Bk w bn 97 [.int .u8 op, .int .i64 node, .int .u8 mode, .int .i64 tab, .bool row, .int .i64 col, .int .i64 var, .int .i64 dst, .bool eq, .int .i64 fro, .int .i64 upto, .slice ka key.length kc, .slice va vals.length vc]) := Lib.hid (fun w x y z h => h.pair (l.length + 1) (by rw [L3.get (by omega) (by omega) (by omega)]; exact HGP.out))
 have HPB : Hid (∀ (w : World) (x y z : Thing), Lies w0 w (L3 l2 i j k x y z) → Bk w b8 52 wantZ.toList) := Lib.hid (fun w x y z h => h.bk l.length (by rw [L3.get (by omega) (by omega) (by omega)]; exact HGB.out))
 have hfew := HF.out.few.2 _ (List.mem_of_getElem? HN.out)
 have hkl2 := hfew.1
 have HFT := Lib.hid hfew.2
 simp only at hkl2 HFT
 clear hfew
 have y11 := (HPW.out _ _ _ _ HLx.out).2.cell 11
 simp only [List.getElem?_cons_zero, List.getElem?_cons_succ] at y11
 go_wp2_with fail
 refine (dvalue_any q _ key w4 (HLx.out.dstR i (L3.geti hij hik il)) HKTx.out hkl2 (by rw [HF.out.len]; have := HF.out.le; omega)).mono ?_
 rintro e w5 ⟨he, hf5⟩
 obtain ⟨ky, hky⟩ : ∃ ky, ky = valP q.vars key := ⟨_, rfl⟩
 rw [← hky] at he
 subst he
 have HKY := Lib.hid hky
 have HLy := Lib.hid (HLx.out.fr0 hf5)
 have HKTy := Lib.hid (HKTx.out.fr0 hf5)
 have HVTy := Lib.hid (HVTx.out.fr0 hf5)
 have HP11y := Lib.hid (hf5.cell HP11x.out fun h => h)
 have HP12y := Lib.hid (hf5.cell HP12x.out fun h => h)
 clear hky hf5 y11 HLx HKTx HVTx HP11x HP12x HF4
 have x6 := (HPW.out _ _ _ _ HLy.out).1.cell 6
 simp only [List.getElem?_cons_zero, List.getElem?_cons_succ] at x6
 have y3 := (HPW.out _ _ _ _ HLy.out).2.cell 3
 simp only [List.getElem?_cons_zero, List.getElem?_cons_succ] at y3
 go_upto_if 39 with (fail)
 go_cut [13] from 40 to 50 (fun v13 wx => ∃ lg2, lg2.length ≤ lg.length + 1 ∧ r = (⟨1, wt, wr, wy, wm, wto, wwr⟩, 0, wentP ⟨op, node, mode, tab, row, col, var, dst, eq, fro, upto, key, vals⟩ ⟨q.at', q.vars, q.out, M, lg⟩ lg2) ∧ Lies w0 wx (L3 l2 i j k (dstT q) (refM qb M) (dlogT vb most lg2)) ∧ TermsAt wx (.slice ka key.length kc) key ∧ ValsAt wx (.slice va vals.length vc) vals)
 case first =>
  cases hwwr : wwr
  ·subst hwwr
   go_wp2_with fail
   go_meet
   exact ⟨lg, by omega, by rw [HR.out]; exact stepM_went HGN.out HX.out rfl rfl, HLy.out, HKTy.out, HVTy.out⟩
  ·subst hwwr
   have hwy : wy = ky := by
    have h9 := congrArg WantD.key HX.out
    have h8 := (nextP_wrote q.vars).1 (by rw [← HX.out])
    rw [nextP_key q.vars h8] at h9
    rw [HKY.out]
    exact h9
   subst hwy
   go_wp2_with fail
   refine (st_dnoteK HLy.out k j (L3.getk kl) (L3.getj hjk jl) i (L3.geti hij hik il) (Ne.symm hik) who tab wy HG.out HFE.out hN hll).mono ?_
   rintro e w6 ⟨he, hl4, C, T, hc1, hc2, hc3⟩
   have hkeep := hc1.keepI hc2 hc3 HLV.out HN.out HP11y.out HP12y.out
   rw [L3.setk] at hl4
   have HK4 := Lib.hid hkeep
   have HL4 := Lib.hid hl4
   rw [noteD_is] at he
   clear hc1 hc2 hc3 hkeep hl4 x6 y3
   by_cases h0 : noteE M most lg tab = 0
   ·have HR4 : Hid (r = (⟨1, wt, wr, wy, wm, wto, true⟩, 0, wentP ⟨op, node, mode, tab, row, col, var, dst, eq, fro, upto, key, vals⟩ ⟨q.at', q.vars, q.out, M, lg⟩ (noteL M most lg who tab wy))) := Lib.hid (by rw [HR.out]; exact stepM_note HGN.out HX.out rfl rfl h0)
    rw [h0] at he
    have he2 : e = .returned (.int .i64 0) := he
    subst he2
    have HLN := Lib.hid (noteL_len M most lg who tab wy)
    clear h0 he
    go_wp2_with fail
    go_meet
    exact ⟨_, HLN.out, HR4.out, HL4.out, HK4.out.1, HK4.out.2⟩
   ·have HR4 : Hid (r = (WantD.zero, noteE M most lg tab, ⟨q.at', q.vars, q.out, M, lg⟩)) := Lib.hid (by rw [HR.out]; exact stepM_full (s := ⟨q.at', q.vars, q.out, M, lg⟩) HGN.out HX.out rfl rfl h0)
    have HLE : Hid (noteL M most lg who tab wy = lg) := Lib.hid (by unfold noteL; rw [if_neg h0])
    rw [HLE.out] at HL4
    have h00 := errD_ne (noteE_ne h0)
    generalize noteE M most lg tab = ne at he h0 HR4 h00
    obtain ⟨nd, hnd⟩ : ∃ nd, nd = errD ne := ⟨_, rfl⟩
    rw [← hnd] at he h00
    have HND := Lib.hid hnd
    have d0 : (nd != 0) = true := by rw [bne_iff_ne]; exact h00
    subst he
    have z0 : w6.cell? ⟨b8, 0, none⟩ = some (.int .u8 0) := (HPB.out _ _ _ _ HL4.out).cell 0
    have z1 : w6.cell? ⟨b8, 1, none⟩ = some (.int .i64 0) := (HPB.out _ _ _ _ HL4.out).cell 1
    have z2 : w6.cell? ⟨b8, 2, none⟩ = some (.bool false) := (HPB.out _ _ _ _ HL4.out).cell 2
    have z3 : w6.cell? ⟨b8, 3, none⟩ = some (.int .i64 0) := (HPB.out _ _ _ _ HL4.out).cell 3
    have z4 : w6.cell? ⟨b8, 4, none⟩ = some (.int .u8 0) := (HPB.out _ _ _ _ HL4.out).cell 4
    have z5 : w6.cell? ⟨b8, 5, none⟩ = some (.bool false) := (HPB.out _ _ _ _ HL4.out).cell 5
    have z6 : w6.cell? ⟨b8, 6, none⟩ = some (.bool false) := (HPB.out _ _ _ _ HL4.out).cell 6
    have s8 := (HPB.out _ _ _ _ HL4.out).free
    clear h0 h00 hnd
    go_wp2_with fail
    refine set7_world (HPB.out _ _ _ _ HL4.out) ?_
    intro w9 hb9 hf9
    have HLF := Lib.hid (step_fin (by rw [← HL2E.out]; exact HL4.out) hil hjl hkl (by rw [← HL2E.out]; exact HGB.out) hb9 hf9)
    have t0 := hb9.cell 0
    have t1 := hb9.cell 1
    have t2 := hb9.cell 2
    have t3 := hb9.cell 3
    have t4 := hb9.cell 4
    have t5 := hb9.cell 5
    have t6 := hb9.cell 6
    simp only [List.getElem?_cons_zero, List.getElem?_cons_succ] at t0 t1 t2 t3 t4 t5 t6
    clear hb9 hf9 s8 z0 z1 z2 z3 z4 z5 z6
    go_wp2_with fail
    exact bodyPost_ret (v := .tuple #[WantD.zero.val, .int .i64 nd]) (by simp [results, Tryz.results22, go_sem, t0, t1, t2, t3, t4, t5, t6, WantD.zero]; try rfl) rfl ⟨by rw [HR4.out, HND.out], q.ov, by rw [HR4.out]; exact HLF.out⟩
 case rest =>
  obtain ⟨lg2, hlg2, hr2, hl5, hk5, hv5⟩ := hcut
  have HR5 := Lib.hid hr2
  have HL5 := Lib.hid hl5
  have HV5 := Lib.hid hv5
  clear hr2 hl5 hk5 hv5 x6 y3 HLy HKTy HVTy HP11y HP12y
  have y0 : wc.cell? ⟨bn, 0, none⟩ = some _ := (HPW.out _ _ _ _ HL5.out).2.cell 0
  go_upto_block 0 with (fail)
  clear y0
  go_cut [14, 15, 16, 17] from 53 to 176 (fun v14 v15 v16 v17 wx => DoneR w0 l2 i j k q qb M (dlogT vb most lg2) ⟨op, node, mode, tab, row, col, var, dst, eq, fro, upto, key, vals⟩ wx ∧ ((10 : Int) ≤ op → ValsAt wx (.slice va vals.length vc) vals))
  case first =>
   rcases hgr with rfl | rfl | rfl | rfl
   ·go_wp2_with fail
    go_meet
    case rel => exact ⟨DoneR.mk (ov := q.ov) HL5.out (by simp [doV]) (by simp [doO]) (by simp [doM]), fun _ => HV5.out⟩
   ·go_wp2_with fail
    go_meet
    case rel => exact ⟨DoneR.mk (ov := q.ov) HL5.out (by simp [doV]) (by simp [doO]) (by simp [doM]), fun _ => HV5.out⟩
   ·go_wp2_with fail
    go_meet
    case rel => exact ⟨DoneR.mk (ov := q.ov) HL5.out (by simp [doV]) (by simp [doO]) (by simp [doM]), fun _ => HV5.out⟩
   ·go_wp2_with fail
    go_meet
    case rel => exact ⟨DoneR.mk (ov := q.ov) HL5.out (by simp [doV]) (by simp [doO]) (by simp [doM]), fun _ => HV5.out⟩
  case rest =>
   obtain ⟨⟨ov, h6⟩, hvc⟩ := hcut
   have HVC := Lib.hid hvc
   clear hvc
   obtain ⟨vs, hvs⟩ : ∃ vs, vs = doV ⟨op, node, mode, tab, row, col, var, dst, eq, fro, upto, key, vals⟩ q.vars M := ⟨_, rfl⟩
   obtain ⟨os, hos⟩ : ∃ os, os = doO ⟨op, node, mode, tab, row, col, var, dst, eq, fro, upto, key, vals⟩ q.vars q.out := ⟨_, rfl⟩
   obtain ⟨M6, hM6⟩ : ∃ M6, M6 = doM ⟨op, node, mode, tab, row, col, var, dst, eq, fro, upto, key, vals⟩ q.vars M := ⟨_, rfl⟩
   have HVS := Lib.hid hvs
   have HOS := Lib.hid hos
   have HM6 := Lib.hid hM6
   rw [← hvs, ← hos, ← hM6] at h6
   have HL6 := Lib.hid h6
   have HVL : Hid (vs.length = q.vars.length) := Lib.hid (by rw [hvs]; exact doV_len _ _)
   clear hvs hos hM6 h6 HL5 HV5
   skip
   have y0 := (HPW.out _ _ _ _ HL6.out).2.cell 0
   have y1 := (HPW.out _ _ _ _ HL6.out).2.cell 1
   have y2 := (HPW.out _ _ _ _ HL6.out).2.cell 2
   have y3 := (HPW.out _ _ _ _ HL6.out).2.cell 3
   have y4 := (HPW.out _ _ _ _ HL6.out).2.cell 4
   have y5 := (HPW.out _ _ _ _ HL6.out).2.cell 5
   have y6 := (HPW.out _ _ _ _ HL6.out).2.cell 6
   have y7 := (HPW.out _ _ _ _ HL6.out).2.cell 7
   have y8 := (HPW.out _ _ _ _ HL6.out).2.cell 8
   have y9 := (HPW.out _ _ _ _ HL6.out).2.cell 9
   have y10 := (HPW.out _ _ _ _ HL6.out).2.cell 10
   have y11 := (HPW.out _ _ _ _ HL6.out).2.cell 11
   have y12 := (HPW.out _ _ _ _ HL6.out).2.cell 12
   simp only [List.getElem?_cons_zero, List.getElem?_cons_succ] at y0 y1 y2 y3 y4 y5 y6 y7 y8 y9 y10 y11 y12
   go_wp2_with fail
   refine (dmoves_any HL6.out i (L3.geti hij hik il) ⟨op, node, mode, tab, row, col, var, dst, eq, fro, upto, key, vals⟩ (.slice ka key.length kc) (.slice va vals.length vc) ⟨_, _, rfl⟩ ⟨_, _, rfl⟩ HVC.out HFT.out (by show vs.length ≤ _; rw [HVL.out, HF.out.len]; exact HF.out.le) (by show q.at' < _; omega) (by show IOk TB vs.length q.L.length _; rw [HVL.out, HF.out.len]; exact HOK.out)).mono ?_
   rintro e w7 ⟨he, h7⟩
   rw [L3.seti hij hik] at h7
   simp only at he h7
   obtain ⟨v7, hv7⟩ : ∃ v7, v7 = (onP ⟨op, node, mode, tab, row, col, var, dst, eq, fro, upto, key, vals⟩ vs).1 := ⟨_, rfl⟩
   obtain ⟨o7, ho7⟩ : ∃ o7, o7 = (onP ⟨op, node, mode, tab, row, col, var, dst, eq, fro, upto, key, vals⟩ vs).2 := ⟨_, rfl⟩
   have hn7 := nextAt_is o7 q.at' (fun t ht => by
    have hd := onP_dst (n := ⟨op, node, mode, tab, row, col, var, dst, eq, fro, upto, key, vals⟩) (vars := vs) (t := t) (by rw [← ho7]; exact ht)
    have h9 := (HOK.out.dst ⟨hd.2.1, hd.2.2⟩).1
    rw [hd.1]
    exact h9)
   obtain ⟨a7, ha7⟩ : ∃ a7 : Nat, a7 = atN o7 q.at' := ⟨_, rfl⟩
   rw [← ha7] at hn7
   rw [← ho7, hn7] at he
   rw [← hv7] at h7
   subst he
   have HL7 := Lib.hid h7
   have hr8 : r = (⟨1, wt, wr, wy, wm, wto, wwr⟩, 0, ⟨a7, v7, os, M6, lg2⟩) := by
    rw [HR5.out]
    unfold wentP
    simp only
    rw [← HVS.out, ← HOS.out, ← HM6.out, ← hv7, ← ho7, ha7]
    rfl
   have HR8 := Lib.hid hr8
   clear h7 hr8 hn7 ha7 hv7 ho7 y0 y1 y2 y3 y4 y5 y6 y7 y8 y9 y10 y11 y12
   have b2 := (HL7.out.dstR i (L3.geti hij hik il)).box.cell 1
   have bf := (HL7.out.dstR i (L3.geti hij hik il)).box.free 1
   simp only [DStV.cs, List.getElem?_cons_zero, List.getElem?_cons_succ] at b2
   go_upto_region 34 with (fail)
   have h8 := HL7.out.dstAt i (L3.geti hij hik il) a7 (a7 : Int) rfl
   rw [L3.seti hij hik] at h8
   obtain ⟨w8, hw8⟩ : ∃ w8, w8 = w7.setCell ⟨q.sb, 1, none⟩ (.int .i64 (a7 : Int)) := ⟨_, rfl⟩
   rw [← hw8] at h8 ⊢
   have HL8 := Lib.hid h8
   clear h8 hw8 b2 bf
   have x0 := (HPW.out _ _ _ _ HL8.out).1.cell 0
   have x1 := (HPW.out _ _ _ _ HL8.out).1.cell 1
   have x2 := (HPW.out _ _ _ _ HL8.out).1.cell 2
   have x3 := (HPW.out _ _ _ _ HL8.out).1.cell 3
   have x4 := (HPW.out _ _ _ _ HL8.out).1.cell 4
   have x5 := (HPW.out _ _ _ _ HL8.out).1.cell 5
   have x6 := (HPW.out _ _ _ _ HL8.out).1.cell 6
   simp only [List.getElem?_cons_zero, List.getElem?_cons_succ] at x0 x1 x2 x3 x4 x5 x6
   have z0 : w8.cell? ⟨b8, 0, none⟩ = some (.int .u8 0) := (HPB.out _ _ _ _ HL8.out).cell 0
   have z1 : w8.cell? ⟨b8, 1, none⟩ = some (.int .i64 0) := (HPB.out _ _ _ _ HL8.out).cell 1
   have z2 : w8.cell? ⟨b8, 2, none⟩ = some (.bool false) := (HPB.out _ _ _ _ HL8.out).cell 2
   have z3 : w8.cell? ⟨b8, 3, none⟩ = some (.int .i64 0) := (HPB.out _ _ _ _ HL8.out).cell 3
   have z4 : w8.cell? ⟨b8, 4, none⟩ = some (.int .u8 0) := (HPB.out _ _ _ _ HL8.out).cell 4
   have z5 : w8.cell? ⟨b8, 5, none⟩ = some (.bool false) := (HPB.out _ _ _ _ HL8.out).cell 5
   have z6 : w8.cell? ⟨b8, 6, none⟩ = some (.bool false) := (HPB.out _ _ _ _ HL8.out).cell 6
   have s8 := (HPB.out _ _ _ _ HL8.out).free
   go_wp2_with fail
   refine set7_world (HPB.out _ _ _ _ HL8.out) ?_
   intro w9 hb9 hf9
   have HLF := Lib.hid (step_fin (by rw [← HL2E.out]; exact HL8.out) hil hjl hkl (by rw [← HL2E.out]; exact HGB.out) hb9 hf9)
   have t0 := hb9.cell 0
   have t1 := hb9.cell 1
   have t2 := hb9.cell 2
   have t3 := hb9.cell 3
   have t4 := hb9.cell 4
   have t5 := hb9.cell 5
   have t6 := hb9.cell 6
   simp only [List.getElem?_cons_zero, List.getElem?_cons_succ] at t0 t1 t2 t3 t4 t5 t6
   clear hb9 hf9 x0 x1 x2 x3 x4 x5 x6 s8 z0 z1 z2 z3 z4 z5 z6
   go_wp2_with fail
   exact bodyPost_ret (v := .tuple #[(⟨1, wt, wr, wy, wm, wto, wwr⟩ : WantD).val, .int .i64 0]) (by simp [results, Tryz.results22, go_sem, t0, t1, t2, t3, t4, t5, t6]; try rfl) rfl ⟨by rw [HR8.out]; rfl, ov, by rw [HR8.out]; exact HLF.out⟩
end
end Go.Proofs.YtgpekgnhbccnoaaGreat
namespace Go.Proofs.YtgpekgnhbccnoaaGreat
open Go Go.RowKit
attribute [local go_sem ↓] Go.wp_at_zero Go.wp_at_succ
section
variable {w0 W : World} {l : List Thing} {q : DStV} {M : List MTab} {qb vb : Nat} {most : Int} {lg : List (Int × Ent)}
set_option maxRecDepth 100000 in
set_option maxHeartbeats 16000000 in
theorem dstep_w (h : Lies w0 W l) (i j k : Nat) (hi : l[i]? = some (dstT q)) (hj : l[j]? = some (refM qb M)) (hk : l[k]? = some (dlogT vb most lg)) (hij : i ≠ j) (hik : i ≠ k) (hjk : j ≠ k) (TB : List Int) (nv : Nat) (hf : DStF q TB nv) (n : InstrD) (hn : q.L[q.at']? = some n) (hg : Good M) {N : Nat} (hfe : Few N M) (hN : N < 1000) (hc : colsN M = TB) (who : Int) (hll : lg.length ≤ 100000) (hol : q.out.length ≤ 100000) (h100 : q.L.length ≤ 100000) (hgr : n.op < 3 ∨ 13 < n.op) :
  Calls Tryz.prog 22 #[.pointer (some ⟨q.sb, 0, none⟩), .int .i64 who, rptr qb, rptr vb] W (DStepRet w0 l i j k q qb vb most (stepM q.L most who ⟨q.at', q.vars, q.out, M, lg⟩)) := by
 have hall := And.intro hij (And.intro hik (And.intro hjk (And.intro hN (And.intro hll (And.intro hol h100)))))
 clear hall
 obtain ⟨iI, hiI, hsI⟩ := info_size Tryz.infoDI
 have hLl := hf.few.1
 have hat := hf.at'
 have hil := (List.getElem?_eq_some_iff.1 hi).1
 have hjl := (List.getElem?_eq_some_iff.1 hj).1
 have hkl := (List.getElem?_eq_some_iff.1 hk).1
 have HGN : Hid (q.L.getD q.at' default = n) := Lib.hid (by rw [List.getD_eq_getElem?_getD, hn]; rfl)
 obtain ⟨r, hr⟩ : ∃ r, r = stepM q.L most who ⟨q.at', q.vars, q.out, M, lg⟩ := ⟨_, rfl⟩
 rw [← hr]
 have HR := Lib.hid hr
 obtain ⟨w1, hw1⟩ : ∃ w1, w1 = W.alloc (.cells wantZ 52) := ⟨_, rfl⟩
 obtain ⟨b8, hb8⟩ : ∃ b8, b8 = W.heap.size := ⟨_, rfl⟩
 have HL1 : Hid (Lies w0 w1 (l ++ [bkT b8 52 wantZ.toList])) := by rw [hw1, hb8]; exact Lib.hid (h.newBk _ _)
 have HI1 : Hid ((l ++ [bkT b8 52 wantZ.toList])[i]? = some (dstT q)) := Lib.hid (by rw [List.getElem?_append_left hil]; exact hi)
 have HW1 := Lib.hid hw1
 have HB8 := Lib.hid hb8
 have HI := Lib.hid hi
 have HJ := Lib.hid hj
 have HK := Lib.hid hk
 have HF := Lib.hid hf
 have HN := Lib.hid hn
 have HG := Lib.hid hg
 have HFE := Lib.hid hfe
 have HC := Lib.hid hc
 obtain ⟨x, hx⟩ : ∃ x, x = nextP n q.vars := ⟨_, rfl⟩
 have HX := Lib.hid hx
 have HNX := Lib.hid (dnext_any q TB nv n w1 (HL1.out.dstR i HI1.out) hf hn)
 rw [← hx] at HNX
 clear h hi hj hk hf hn hg hfe hc hw1 hb8 hr hx
 obtain ⟨wk, wt, wr, wy, wm, wto, wwr⟩ := x
 simp only [WantD.val] at HNX
 go_enter Tryz.func22, Tryz.ntmps22
 go_wp2_with fail
 rw [← HW1.out, ← HB8.out]
 refine HNX.out.mono ?_
 rintro e w2 ⟨he, hf2⟩
 subst he
 have HL2 := Lib.hid (HL1.out.fr0 hf2)
 clear hf2 HNX
 go_upto_region 2 with (fail)
 obtain ⟨bw, hbw⟩ : ∃ bw, bw = w2.heap.size := ⟨_, rfl⟩
 obtain ⟨w3, hw3⟩ : ∃ w3, w3 = w2.alloc (.cells #[.int .u8 wk, .int .i64 wt, .bool wr, .int .i64 wy, .int .u8 wm, .bool wto, .bool wwr] 52) := ⟨_, rfl⟩
 have HBW : Hid (Bk w3 bw 52 [.int .u8 wk, .int .i64 wt, .bool wr, .int .i64 wy, .int .u8 wm, .bool wto, .bool wwr]) := by rw [hw3, hbw]; exact Lib.hid (Bk.new w2 _ _)
 have HF3 : Hid (Fr w2 w3 Nil) := by rw [hw3]; exact Lib.hid ((Fr.refl w2 Nil).alloc _)
 have HBS := Lib.hid hbw
 rw [← hw3, ← hbw]
 clear hw3 hbw
 have hk1 : wk ≠ 1 := fun e => by
  have h9 := (nextP_kind q.vars (HF.out.ok.all _ _ HN.out).lo (HF.out.ok.all _ _ HN.out).hi).1 (by rw [← HX.out]; exact e)
  omega
 have d1 : (wk != 1) = true := by rw [bne_iff_ne]; exact hk1
 obtain ⟨l2, hl2⟩ : ∃ l2, l2 = l ++ [bkT b8 52 wantZ.toList, bkT bw 52 [.int .u8 wk, .int .i64 wt, .bool wr, .int .i64 wy, .int .u8 wm, .bool wto, .bool wwr]] := ⟨_, rfl⟩
 have HL2E := Lib.hid hl2
 have HGB : Hid (l2[l.length]? = some (bkT b8 52 wantZ.toList)) := Lib.hid (by rw [hl2]; simp)
 have HGW : Hid (l2[l.length + 1]? = some (bkT bw 52 [.int .u8 wk, .int .i64 wt, .bool wr, .int .i64 wy, .int .u8 wm, .bool wto, .bool wwr])) := Lib.hid (by rw [hl2, List.getElem?_append_right (by omega), Nat.add_sub_cancel_left]; rfl)
 have il : i < l2.length := by rw [hl2, List.length_append]; omega
 have jl : j < l2.length := by rw [hl2, List.length_append]; omega
 have kl : k < l2.length := by rw [hl2, List.length_append]; omega
 have HLx : Hid (Lies w0 w3 (L3 l2 i j k (dstT q) (refM qb M) (dlogT vb most lg))) := by
  have e1 : l2[i]? = some (dstT q) := by rw [hl2, List.getElem?_append_left hil]; exact HI.out
  have e2 : l2[j]? = some (refM qb M) := by rw [hl2, List.getElem?_append_left hjl]; exact HJ.out
  have e3 : l2[k]? = some (dlogT vb most lg) := by rw [hl2, List.getElem?_append_left hkl]; exact HK.out
  rw [L3.self e1 e2 e3, hl2]
  have h9 := HL2.out.add (bkT bw 52 [.int .u8 wk, .int .i64 wt, .bool wr, .int .i64 wy, .int .u8 wm, .bool wto, .bool wwr]) (W' := w3) (S := fun k => k = bw) ⟨HBW.out, fun _ => Iff.rfl⟩ (fun k hk => by rw [hk, HBS.out]; exact Nat.le_refl _) HF3.out
  rw [List.append_assoc] at h9
  exact Lib.hid h9
 have HPB : Hid (∀ (w : World) (x y z : Thing), Lies w0 w (L3 l2 i j k x y z) → Bk w b8 52 wantZ.toList) := Lib.hid (fun w x y z h => h.bk l.length (by rw [L3.get (by omega) (by omega) (by omega)]; exact HGB.out))
 have HR4 : Hid (r = (⟨wk, wt, wr, wy, wm, wto, wwr⟩, 0, ⟨q.at', q.vars, q.out, M, lg⟩)) := Lib.hid (by rw [HR.out]; exact stepM_want HGN.out HX.out hk1)
 clear hk1 hl2 HL1 HL2
 have x0 := HBW.out.cell 0
 have x1 := HBW.out.cell 1
 have x2 := HBW.out.cell 2
 have x3 := HBW.out.cell 3
 have x4 := HBW.out.cell 4
 have x5 := HBW.out.cell 5
 have x6 := HBW.out.cell 6
 simp only [List.getElem?_cons_zero, List.getElem?_cons_succ] at x0 x1 x2 x3 x4 x5 x6
 have z0 : w3.cell? ⟨b8, 0, none⟩ = some (.int .u8 0) := (HPB.out _ _ _ _ HLx.out).cell 0
 have z1 : w3.cell? ⟨b8, 1, none⟩ = some (.int .i64 0) := (HPB.out _ _ _ _ HLx.out).cell 1
 have z2 : w3.cell? ⟨b8, 2, none⟩ = some (.bool false) := (HPB.out _ _ _ _ HLx.out).cell 2
 have z3 : w3.cell? ⟨b8, 3, none⟩ = some (.int .i64 0) := (HPB.out _ _ _ _ HLx.out).cell 3
 have z4 : w3.cell? ⟨b8, 4, none⟩ = some (.int .u8 0) := (HPB.out _ _ _ _ HLx.out).cell 4
 have z5 : w3.cell? ⟨b8, 5, none⟩ = some (.bool false) := (HPB.out _ _ _ _ HLx.out).cell 5
 have z6 : w3.cell? ⟨b8, 6, none⟩ = some (.bool false) := (HPB.out _ _ _ _ HLx.out).cell 6
 have s8 := (HPB.out _ _ _ _ HLx.out).free
 go_wp2_with fail
 refine set7_world (HPB.out _ _ _ _ HLx.out) ?_
 intro w9 hb9 hf9
 have HLF := Lib.hid (step_fin (by rw [← HL2E.out]; exact HLx.out) hil hjl hkl (by rw [← HL2E.out]; exact HGB.out) hb9 hf9)
 have t0 := hb9.cell 0
 have t1 := hb9.cell 1
 have t2 := hb9.cell 2
 have t3 := hb9.cell 3
 have t4 := hb9.cell 4
 have t5 := hb9.cell 5
 have t6 := hb9.cell 6
 simp only [List.getElem?_cons_zero, List.getElem?_cons_succ] at t0 t1 t2 t3 t4 t5 t6
 clear hb9 hf9 x0 x1 x2 x3 x4 x5 x6 s8 z0 z1 z2 z3 z4 z5 z6
 go_wp2_with fail
 exact bodyPost_ret (v := .tuple #[(⟨wk, wt, wr, wy, wm, wto, wwr⟩ : WantD).val, .int .i64 0]) (by simp [results, Tryz.results22, go_sem, t0, t1, t2, t3, t4, t5, t6]; try rfl) rfl ⟨by rw [HR4.out]; rfl, q.ov, by rw [HR4.out]; exact HLF.out⟩
end
end Go.Proofs.YtgpekgnhbccnoaaGreat
namespace Go.Proofs.YtgpekgnhbccnoaaGreat
open Go Go.RowKit
attribute [local go_sem ↓] Go.wp_at_zero Go.wp_at_succ
section
variable {w0 W : World} {l : List Thing} {q : DStV} {M : List MTab} {qb vb : Nat} {most : Int} {lg : List (Int × Ent)}
set_option maxHeartbeats 400000 in
theorem dstep_any (h : Lies w0 W l) (i j k : Nat) (hi : l[i]? = some (dstT q)) (hj : l[j]? = some (refM qb M)) (hk : l[k]? = some (dlogT vb most lg)) (hij : i ≠ j) (hik : i ≠ k) (hjk : j ≠ k) (TB : List Int) (nv : Nat) (hf : DStF q TB nv) (n : InstrD) (hn : q.L[q.at']? = some n) (hg : Good M) {N : Nat} (hfe : Few N M) (hN : N < 1000) (hc : colsN M = TB) (who : Int) (hll : lg.length ≤ 100000) (hol : q.out.length ≤ 100000) (h100 : q.L.length ≤ 100000) :
  Calls Tryz.prog 22 #[.pointer (some ⟨q.sb, 0, none⟩), .int .i64 who, rptr qb, rptr vb] W (DStepRet w0 l i j k q qb vb most (stepM q.L most who ⟨q.at', q.vars, q.out, M, lg⟩)) := by
 by_cases h0 : n.op < 3 ∨ 13 < n.op
 ·exact dstep_w h i j k hi hj hk hij hik hjk TB nv hf n hn hg hfe hN hc who hll hol h100 h0
 by_cases h3 : n.op = 3 ∨ n.op = 4 ∨ n.op = 5 ∨ n.op = 6
 ·exact dstep_a h i j k hi hj hk hij hik hjk TB nv hf n hn hg hfe hN hc who hll hol h100 h3
 by_cases h7 : n.op = 7 ∨ n.op = 8 ∨ n.op = 9
 ·exact dstep_b h i j k hi hj hk hij hik hjk TB nv hf n hn hg hfe hN hc who hll hol h100 h7
 by_cases h10 : n.op = 10 ∨ n.op = 11 ∨ n.op = 12 ∨ n.op = 13
 ·exact dstep_c h i j k hi hj hk hij hik hjk TB nv hf n hn hg hfe hN hc who hll hol h100 h10
 omega
end
end Go.Proofs.YtgpekgnhbccnoaaGreat
namespace Go.Proofs.YtgpekgnhbccnoaaGreat
open Go Go.RowKit
attribute [local go_sem ↓] Go.wp_at_zero Go.wp_at_succ

/-- What New lays itself. -/
def boxT (q : DStV) : Thing where
 At w T := (Bk w q.sb 56 q.cs ∧ OwnInts w 2 q.vv q.vars) ∧ (∀ k, q.vv.ownBlock = some k → k ≠ q.sb) ∧ ∀ k, T k ↔ k = q.sb ∨ q.vv.ownBlock = some k
 fr h hf hd := ⟨⟨h.1.1.fr hf (hd _ ((h.2.2 _).2 (.inl rfl))), h.1.2.fr hf fun k hk => hd k ((h.2.2 k).2 (.inr hk))⟩, h.2⟩
 lt h k hk := ((h.2.2 k).1 hk).elim (fun e => by rw [e]; exact h.1.1.lt) fun e => h.1.2.lt k e
def DStNew (w0 : World) (l : List Thing) (TB : List Int) (nv : Int) (L : List InstrD) (args : List Int) (e : Ending) (W' : World) : Prop :=
 (RightP TB nv L ∧ (args.length : Int) ≤ nv ∧ ∃ q : DStV, e = .returned (.tuple #[.pointer (some ⟨q.sb, 0, none⟩), .bool true]) ∧ q.L = L ∧ q.at' = 0 ∧ q.vars = vars0 nv.toNat args ∧ q.out = [] ∧ Lies w0 W' (l ++ [dstT q])) ∨
 (¬ (RightP TB nv L ∧ (args.length : Int) ≤ nv) ∧ e = .returned (.tuple #[.pointer none, .bool false]) ∧ Lies w0 W' l)
def varsI (nv : Nat) (args : List Int) (i : Nat) : List Int := args.take i ++ List.replicate (nv - i) 0
theorem varsI_len {nv : Nat} {args : List Int} {i : Nat} (hi : i ≤ args.length) (hn : args.length ≤ nv) : (varsI nv args i).length = nv := by
 unfold varsI
 rw [List.length_append, List.length_take, List.length_replicate]
 omega
theorem varsI_zero (nv : Nat) (args : List Int) : varsI nv args 0 = List.replicate nv 0 := by simp [varsI]
theorem varsI_all (nv : Nat) (args : List Int) : varsI nv args args.length = vars0 nv args := by simp [varsI, vars0]
theorem varsI_set {nv : Nat} {args : List Int} {i : Nat} {x : Int} (hx : args[i]? = some x) (hn : args.length ≤ nv) : (varsI nv args i).set i x = varsI nv args (i + 1) := by
 have hi := (List.getElem?_eq_some_iff.1 hx).1
 unfold varsI
 have e1 : (args.take i).length = i := by rw [List.length_take]; omega
 obtain ⟨m, hm⟩ : ∃ m, nv - i = m + 1 := ⟨nv - i - 1, by omega⟩
 rw [List.set_append_right _ _ (by omega), e1, Nat.sub_self, hm, List.replicate_succ, List.set_cons_zero, List.take_add_one, hx, show nv - (i + 1) = m by omega]
 simp
section
variable {w0 W : World} {l : List Thing} {lv tv av : Value} {L : List InstrD} {TB args : List Int}
set_option maxRecDepth 100000 in
set_option maxHeartbeats 4000000 in
theorem dnew_st (nv : Int) (h : Lies w0 W (l ++ [readT (fun w => CodeAt w lv L)])) (hop : ∀ n ∈ L, 0 ≤ n.op ∧ n.op < 256) (ht : IntsAt w0 tv TB) (ha : IntsAt w0 av args) (hf : FewC L) (hnv : nv ≤ 100000) (hTB : TB.length ≤ 100000) (hal : args.length ≤ 100000) :
  Calls Tryz.prog 9 #[lv, tv, .int .i64 nv, av] W (DStNew w0 l TB nv L args) := by
 obtain ⟨ib, hib, hz0, hz1, hz2⟩ := info_parts (P := Tryz.prog) (e := 2) (z := .int .i64 0) (size := 1) (bytes := 8) (by kernel_rfl)
 have hcode : CodeAt W lv L := Lies.read (R := fun w => CodeAt w lv L) h l.length (by rw [List.getElem?_append_right (Nat.le_refl _), Nat.sub_self]; rfl)
 obtain ⟨l0, lc, rfl⟩ := hcode.shape
 obtain ⟨t0, tc, rfl⟩ := ht.shape
 obtain ⟨a0, ac, rfl⟩ := ha.shape
 have HA := Lib.hid ha
 have HL := Lib.hid h
 have HRT := Lib.hid (dright_any _ (.slice t0 TB.length tc) TB L W nv hcode hop (ht.fr0 h.fr) hf hTB (by omega))
 clear h hop ht ha hf hcode
 go_enter Tryz.func9, Tryz.ntmps9
 go_wp2_with fail
 refine HRT.out.mono ?_
 rintro e w1 ⟨b, rfl, hb, hf1⟩
 have HL1 := Lib.hid (HL.out.fr0 hf1)
 clear hf1 HL HRT
 cases b
 ·have HN : Hid (¬ (RightP TB nv L ∧ (args.length : Int) ≤ nv)) := Lib.hid fun h9 => by have := hb.2 h9.1; cases this
  have HLt := Lib.hid (show Lies w0 w1 l by have h9 := HL1.out.take l.length; rwa [List.take_left'] at h9; rfl)
  clear hb
  go_wp2_with fail
  go_ret2
  exact .inr ⟨HN.out, rfl, HLt.out⟩
 have HRP := Lib.hid (hb.1 rfl)
 clear hb
 by_cases hle : (args.length : Int) ≤ nv
 rotate_left
 ·have HN : Hid (¬ (RightP TB nv L ∧ (args.length : Int) ≤ nv)) := Lib.hid fun h9 => hle h9.2
  have HLt := Lib.hid (show Lies w0 w1 l by have h9 := HL1.out.take l.length; rwa [List.take_left'] at h9; rfl)
  go_wp2_with fail
  go_ret2
  exact .inr ⟨HN.out, rfl, HLt.out⟩
 obtain ⟨nn, rfl⟩ : ∃ nn : Nat, nv = (nn : Int) := ⟨nv.toNat, by omega⟩
 have hle2 : args.length ≤ nn := by omega
 have Hb1 : Hid (ib.bytes * nn ≤ 281474976710656) := by
  have : ib.bytes * nn ≤ 281474976710656 := by rw [hz2]; omega
  exact this
 have Hb2 : Hid (nn ≤ maxLen) := by
  have : nn ≤ maxLen := by unfold maxLen; omega
  exact this
 go_wp2_with (at_make; refine wpList_make_full _ rfl _ _ 24 rfl 0 2 ib (.int .i64 0) 1 Tryz.underlying24 hib hz0 hz1 _ _ _ _ nn rfl rfl rfl rfl Hb1.out Hb2.out (Nat.zero_le _) ?_; intro w2 hown hgr; have HO := Lib.hid hown; have HF2 := Lib.hid ((Fr.refl w1 Nil).grown hgr (fun k hk => by cases hk)); clear hown hgr)
 obtain ⟨vb, hvb⟩ : ∃ vb, vb = w1.heap.size := ⟨_, rfl⟩
 obtain ⟨sb, hsb⟩ : ∃ sb, sb = w2.heap.size := ⟨_, rfl⟩
 obtain ⟨w3, hw3⟩ : ∃ w3, w3 = w2.alloc (.cells #[.slice l0 L.length lc, .int .i64 0, .slice (some ⟨vb, 0, none⟩) nn nn, .slice none 0 0] 56) := ⟨_, rfl⟩
 have hq : Lies w0 w3 (l ++ [dstT ⟨sb, .slice l0 L.length lc, .slice (some ⟨vb, 0, none⟩) nn nn, .slice none 0 0, L, 0, varsI nn args 0, []⟩]) := by
  have hf3 : Fr w1 w3 Nil := by rw [hw3]; exact HF2.out.alloc _
  have hb3 : Bk w3 sb 56 [.slice l0 L.length lc, .int .i64 0, .slice (some ⟨vb, 0, none⟩) nn nn, .slice none 0 0] := by rw [hw3, hsb]; exact Bk.new w2 _ _
  have hlt := (World.ownsRow.lt HO.out w1.heap.size rfl).2
  have hnz : (madeCells (Value.int .i64 0).cells (nn * 1)).toList = (List.replicate nn (0 : Int)).map (Value.int .i64) := by
   rw [Nat.mul_one, List.map_replicate]
   exact toList_madeCells_one _ _
  have ho := HO.out
  rw [hnz, ← hvb] at ho
  have hov : OwnInts w3 2 (.slice (some ⟨vb, 0, none⟩) nn nn) (varsI nn args 0) := by
   rw [varsI_zero]
   unfold OwnInts
   rw [List.length_replicate, hw3]
   exact World.ownsRow.alloc ho _
  have h9 := HL1.out.add (boxT ⟨sb, .slice l0 L.length lc, .slice (some ⟨vb, 0, none⟩) nn nn, .slice none 0 0, L, 0, varsI nn args 0, []⟩) (W' := w3) (S := fun k => k = sb ∨ (Value.slice (some ⟨vb, 0, none⟩) nn nn).ownBlock = some k) ⟨⟨hb3, hov⟩, fun k hk e => by
   have hk2 : vb = k := by simpa [Value.ownBlock] using hk
   have e2 : k = sb := e
   omega, fun k => Iff.rfl⟩ (fun k hk => by
   rcases hk with rfl | hk
   ·rw [hsb]; exact HF2.out.size
   ·have hk2 : vb = k := by simpa [Value.ownBlock] using hk
    omega) hf3
  rw [List.append_assoc] at h9
  refine h9.fuse fun S T h1 h2 hd => ⟨S, ⟨h2.1.1, h2.1.2, World.ownsRow_nil _ _ _ _, h1.1, h1.2, fun hs => hd _ hs ((h2.2.2 _).2 (.inl rfl)), fun k hk => ⟨fun hs => hd k hs ((h2.2.2 k).2 (.inr hk)), h2.2.1 k hk, by simp [Value.ownBlock]⟩, fun k hk => by simp [Value.ownBlock] at hk⟩, fun k => ?_⟩
  constructor
  ·rintro (hs | ht)
   ·exact .inr (.inr (.inr hs))
   ·rcases (h2.2.2 k).1 ht with e | e
    ·exact .inl e
    ·exact .inr (.inl e)
  ·rintro (e | e | e | e)
   ·exact .inr ((h2.2.2 k).2 (.inl e))
   ·exact .inr ((h2.2.2 k).2 (.inr e))
   ·simp [Value.ownBlock] at e
   ·exact .inl e
 have HQ := Lib.hid hq
 rw [← hvb, ← hsb, ← hw3]
 clear hq hvb hsb hw3 HL1 HF2 HO
 go_loopw [11] (fun vi wr => ∃ (i : Nat), i ≤ args.length ∧ vi = .int .i64 i ∧ Lies w0 wr (l ++ [dstT ⟨sb, .slice l0 L.length lc, .slice (some ⟨vb, 0, none⟩) nn nn, .slice none 0 0, L, 0, varsI nn args i, []⟩])) (fun vi _ => args.length - (intOf vi).toNat)
 case atStart => exact ⟨0, by omega, rfl, HQ.out⟩
 case round =>
  clear HQ
  obtain ⟨i, hi, rfl, h⟩ := hrel
  have HLi := Lib.hid h
  obtain ⟨wo, rfl⟩ : ∃ wo : World, wo = wr := ⟨_, rfl⟩
  have hgi : (l ++ [dstT ⟨sb, .slice l0 L.length lc, .slice (some ⟨vb, 0, none⟩) nn nn, .slice none 0 0, L, 0, varsI nn args i, []⟩])[l.length]? = some (dstT ⟨sb, .slice l0 L.length lc, .slice (some ⟨vb, 0, none⟩) nn nn, .slice none 0 0, L, 0, varsI nn args i, []⟩) := by rw [List.getElem?_append_right (Nat.le_refl _), Nat.sub_self]; rfl
  have HGI := Lib.hid hgi
  clear h hgi
  by_cases hlt : i < args.length
  ·have hvl := varsI_len (i := i) hi hle2
   obtain ⟨vb2, vcap, ev, c2, d4, d5, d6⟩ := HLi.out.dbox l.length HGI.out i (by show i < (varsI nn args i).length; omega)
   simp only [Value.slice.injEq, Option.some.injEq, Addr.mk.injEq, and_true] at ev
   obtain ⟨rfl, e2, rfl⟩ := ev
   have hx := List.getElem?_eq_getElem hlt
   generalize args[i] = x at hx
   obtain ⟨ab, aoff, acap, hav, hac⟩ := HA.out.form (by omega)
   simp only [Value.slice.injEq, true_and] at hav
   obtain ⟨rfl, rfl⟩ := hav
   have k1 := KeptF.cell (HLi.out.fr.cell (hac i x hx) fun h => h)
   have c2' : wo.cell? ⟨sb, 2, none⟩ = some (.slice (some ⟨vb, 0, none⟩) nn nn) := by
    have := c2
    simp only [← e2] at this
    exact this
   have k2 := KeptF.cell c2'
   have hii : (i : Int) < (args.length : Int) := by omega
   have hin : (i : Int) < (nn : Int) := by omega
   have D6 := Lib.hid (d6 x)
   have HXV := Lib.hid (varsI_set hx hle2)
   clear c2 c2' d6 hac hx hvl e2
   go_wp2_with fail
   refine wp_region_sink 10 (KeptF wo) (by kernel_rfl) ?_
   have hS : KeptF wo wo.drew := KeptF.start _
   refine tk 0 hS ?_
   refine tk 1 hS ?_
   refine tk 2 hS ?_
   try simp only [Act.put, sA, sB, sC]
   refine tk 3 hS ?_ (hy := by intro _ w; have ck2 := k2 _ w; go_simp <;> with_reducible rfl)
   try simp only [Act.put, sA, sB, sC]
   refine tk 4 hS ?_
   refine tk 5 hS ?_
   refine tk 6 hS ?_
   refine tk 7 hS ?_
   try simp only [Act.put, sA, sB, sC]
   refine tk 8 hS ?_ (hy := by intro _ w; have ck1 := k1 _ w; go_simp <;> with_reducible rfl)
   try simp only [Act.put, sA, sB, sC]
   refine tk 9 hS ?_
   try simp only [Act.put, sA, sB, sC]
   refine wpAnyS_last (i := 10) rfl (by kernel_rfl) (by decide) (by kernel_rfl) (by rfl) fun K hK => ?_
   go_simp
   refine hK.out _ _ ?_
   have h9 := D6.out.fr0 ((Fr.refl _ Nil).drew)
   rw [List.set_append_right _ _ (Nat.le_refl _), Nat.sub_self] at h9
   simp only [List.set_cons_zero] at h9
   rw [HXV.out] at h9
   have HL9 := Lib.hid h9
   clear hK K hS k1 k2 d4 d5 h9
   go_wp2_with fail
   go_roundw
   case rel => exact ⟨i + 1, by omega, by go_num, HL9.out⟩
   case measure => simp [intOf]; omega
  ·obtain rfl : i = args.length := by omega
   have hii : ¬ (args.length : Int) < (args.length : Int) := by omega
   go_wp2_with fail
   go_ret2
   exact .inl ⟨HRP.out, hle, _, rfl, rfl, rfl, by rw [Int.toNat_natCast]; exact varsI_all nn args, rfl, HLi.out⟩
end
end Go.Proofs.YtgpekgnhbccnoaaGreat
