/-
 Walks of the law's sameRows, want.
 No condition but sizes.
-/
import Derived.Test.YtgpekgnhbccnoaaGreatPkY37
import Derived.Test.YtgpekgnhbccnoaaGreatPkY23
import Derived.Test.YtgpekgnhbccnoaaGreatPkY39
import Derived.Test.YtgpekgnhbccnoaaGreatPkY15
namespace Go.Proofs.YtgpekgnhbccnoaaGreat
open Go Go.RowKit

set_option maxRecDepth 100000 in
set_option maxHeartbeats 4000000 in
theorem sameRows_any {rb qb : Nat} {M : List MTab} {S T : Nat → Prop} {B : Nat} (w : World) (h : Rws w rb M S) (hq : RefAt w qb (colsN M) (flatM M) T) (hg : Good M) (hfew : Few B M) (hB : B ≤ 1000) :
  Calls Tryz.prog 23 #[rptr rb, rptr qb] w fun e w' => e = .returned (.bool true) ∧ Fr w w' Nil := by
 have HQ := Lib.hid (qok_flat hg hfew hB)
 have HG := Lib.hid hg
 have H := Lib.hid h
 have hNL : (colsN M).length = M.length := by simp [colsN]
 have hML : M.length ≤ 64 := hg.few
 obtain ⟨nv, lvq, gq, hr, hgq⟩ := hq
 obtain ⟨an, cn, hnv⟩ := hr.n.shape
 rw [hnv, hNL] at hr
 have HR := Lib.hid hr
 have HGQ := Lib.hid hgq
 have q0 := hr.root.cell 0
 clear h hg hfew hnv hr hgq hNL
 go_enter Tryz.func23, Tryz.ntmps23
 go_wp2_with fail
 go_loopw [5] (fun vt wr => ∃ t : Nat, t ≤ M.length ∧ vt = .int .i64 t ∧ Fr w wr Nil) (fun vt _ => (M.length - (intOf vt).toNat))
 case atStart => exact ⟨0, by omega, rfl, Fr.refl w Nil⟩
 case round =>
  obtain ⟨t, ht, rfl, hf⟩ := hrel
  have HF := Lib.hid hf
  have q1 := hf.cell q0 (fun h => h)
  clear hf
  by_cases hlt : t < M.length
  ·have htt : (t : Int) < (M.length : Int) := by omega
   go_wp2_with fail
   refine (api_all (t : Int) (H.out.fr0 HF.out) HG.out).mono ?_
   rintro e w4 ⟨al, cl, g, rfl, hN, hrows, hf⟩
   have HF4 := Lib.hid (HF.out.trans0 hf)
   have HN := Lib.hid hN
   have Hrows := Lib.hid hrows
   clear hf HF hN hrows
   go_wp2_with fail
   refine (rall_any (t : Int) _ (HR.out.fr0 HF4.out) (by have := HQ.out.l; rw [← HGQ.out] at this; simpa [qrows] using this)).mono ?_
   rintro e w5 ⟨aq, cq, g2, rfl, hS, hq2⟩
   rw [HGQ.out, rel_all] at hq2
   have hl2 := tells_len Hrows.out hq2
   have HF5 := Lib.hid (HF4.out.trans0 hS.fr)
   have HN5 := Lib.hid (HN.out.fr hS.fr)
   have HQ5 := Lib.hid hS.l
   have HQ2 := Lib.hid hq2
   have hgl2 := Lib.hid hl2.1
   have hne : ((g.length : Int) != (g2.length : Int)) = false := by rw [bne_eq_false_iff_eq]; have := hgl2.out; omega
   have hgl : g.length ≤ 1000000 := by have := (HG.out.at t).few; rw [← Hrows.out] at this; simpa [rowsOf] using this
   clear hS hq2 hl2 HN HF4
   go_wp2_with fail
   go_loopw [8] (fun vi wr => ∃ i : Nat, i ≤ g.length ∧ vi = .int .i64 i ∧ Fr w5 wr Nil) (fun vi _ => g.length - (intOf vi).toNat)
   case atStart => exact ⟨0, by omega, rfl, Fr.refl _ _⟩
   case round =>
    obtain ⟨i, hi, rfl, hf⟩ := hrel
    have HF := Lib.hid hf
    clear hf
    by_cases hli : i < g.length
    ·have hr := List.getElem?_eq_getElem hli
     have hli2 : i < g2.length := by have := hgl2.out; omega
     have hq := List.getElem?_eq_getElem hli2
     generalize g[i] = r at hr
     generalize g2[i] = q at hq
     obtain ⟨b, capb, hlv, _⟩ : ∃ b cap, Value.slice al g.length cl = .slice (some ⟨b, 0, none⟩) g.length cap ∧ True := by
      rcases HN5.out.rl.shape with ⟨_, h2⟩ | ⟨b, cap, h1, _⟩
      ·rw [h2] at hli; simp at hli
      ·exact ⟨b, cap, h1, trivial⟩
     simp only [Value.slice.injEq, true_and] at hlv
     obtain ⟨rfl, rfl⟩ := hlv
     have hN6 := HN5.out.fr HF.out
     have p0 := hN6.rl.key i r hr
     have p1 := hN6.rl.cv i r hr
     have hown := hN6.rl.cols r (List.mem_of_getElem? hr)
     have hql := HQ5.out.fr0 HF.out
     obtain ⟨bq, oq, cq2, hqv, _, p3, p4⟩ := hql.cells hq
     simp only [Value.slice.injEq, true_and] at hqv
     obtain ⟨rfl, rfl⟩ := hqv
     obtain ⟨hk1, hk2, _, hcl⟩ := tells_row HG.out Hrows.out HQ2.out hr hq
     have hqc := hql.cols q (List.mem_of_getElem? hq)
     rw [hk2] at hqc
     rw [hk1] at p3
     obtain ⟨ac, cc, hcv⟩ := hown.shape
     obtain ⟨aqc, cqc, hqcv⟩ := hqc.shape
     rw [hcv] at p1 hown
     rw [hqcv] at p4 hqc
     have HOW := Lib.hid hown.at
     have HQC := Lib.hid hqc
     have hi1 : (i : Int) < (g.length : Int) := by omega
     have hi2 : (i : Int) < (g2.length : Int) := by omega
     obtain ⟨wo, rfl⟩ : ∃ wo : World, wo = wr := ⟨_, rfl⟩
     clear hr hq hown hql hk1 hk2 hqc hcv hqcv hN6
     have k0 := KeptF.cell p0
     have k1 := KeptF.cell p1
     have k3 := KeptF.cell p3
     have k4 := KeptF.cell p4
     clear p0 p1 p3 p4
     go_wp2_with fail
     refine wp_region_sink 24 (KeptF wo) (by kernel_rfl) ?_
     have hS : KeptF wo wo.drew := KeptF.start _
     refine tk 0 hS ?_
     refine tk 1 hS ?_
     refine tk 2 hS ?_
     refine tk 3 hS ?_
     try simp only [Act.put, sA, sB, sC]
     refine tk 4 hS ?_ (hy := by intro _ w; have ck0 := k0 _ w; go_simp <;> with_reducible rfl)
     try simp only [Act.put, sA, sB, sC]
     refine tk 5 hS ?_
     refine tk 6 hS ?_
     refine tk 7 hS ?_
     refine tk 8 hS ?_
     try simp only [Act.put, sA, sB, sC]
     refine tk 9 hS ?_ (hy := by intro _ w; have ck3 := k3 _ w; go_simp <;> with_reducible rfl)
     try simp only [Act.put, sA, sB, sC]
     refine tk 10 hS ?_
     refine tk 11 hS ?_
     refine tk 12 hS ?_
     refine tk 13 hS ?_
     refine tk 14 hS ?_
     refine tk 15 hS ?_
     try simp only [Act.put, sA, sB, sC]
     refine tk 16 hS ?_ (hy := by intro _ w; have ck1 := k1 _ w; go_simp <;> with_reducible rfl)
     try simp only [Act.put, sA, sB, sC]
     refine tk 17 hS ?_
     refine tk 18 hS ?_
     refine tk 19 hS ?_
     refine tk 20 hS ?_
     try simp only [Act.put, sA, sB, sC]
     refine tk 21 hS ?_ (hy := by intro _ w; have ck4 := k4 _ w; go_simp <;> with_reducible rfl)
     try simp only [Act.put, sA, sB, sC]
     refine on1 22 fun K hK => ?_
     go_simp
     refine (sameInts_any _ _ r.cols r.cols _ (HOW.out.fr0 (Fr.refl wo Nil).drew) (HQC.out.fr0 (Fr.refl wo Nil).drew) hcl hcl).mono ?_
     rintro e w6 ⟨he, hf6⟩
     rw [decide_eq_true (rfl : r.cols = r.cols)] at he
     subst he
     have hS2 := KeptF.next hS hf6
     refine hK.out _ _ hS2 ?_
     clear hK K
     try simp only [Act.put, sA, sB, sC]
     refine tk 23 hS2 ?_
     try simp only [Act.put, sA, sB, sC]
     refine wpAnyS_last (i := 24) rfl (by kernel_rfl) (by decide) (by kernel_rfl) (by rfl) fun K hK => ?_
     go_simp
     refine hK.out _ _ ?_
     have HF6 := Lib.hid (KeptF.fr hS2)
     clear hK K hS hS2 hf6 k0 k1 k3 k4
     go_wp2_with fail
     go_roundw
     case rel => exact ⟨i + 1, by omega, by go_num, HF.out.trans0 HF6.out⟩
     case measure => simp [intOf]; omega
    ·have hi1 : ¬ (i : Int) < (g.length : Int) := by omega
     go_wp2_with fail
     go_roundw
     case rel => exact ⟨t + 1, by omega, by go_num, HF5.out.trans0 HF.out⟩
     case measure => simp [intOf]; omega
  ·have htt : ¬ (t : Int) < (M.length : Int) := by omega
   go_wp2_with fail
   go_ret
   exact ⟨rfl, HF.out⟩

set_option maxRecDepth 100000 in
set_option maxHeartbeats 4000000 in
theorem want_any (x : WantD) (w : World) : Calls Tryz.prog 14 #[x.val, x.val] w fun e w' => e = .returned (.bool true) ∧ Fr w w' Nil := by
 obtain ⟨kind, tab, row, key, mode, touched, wrote⟩ := x
 simp only [WantD.val]
 go_enter Tryz.func14, Tryz.ntmps14
 go_wp2_with fail
 go_ret
 exact ⟨rfl, ((Fr.refl w Nil).alloc _).alloc _⟩
end Go.Proofs.YtgpekgnhbccnoaaGreat
