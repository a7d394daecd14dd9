/-
  Walk of Waits: for what one waits.
  No condition but sizes.
-/
import Derived.Test.YtokeciekncincabGreatPkC8
import Derived.Test.YtokeciekncincabGreatPkC15
import Derived.Test.YtokeciekncincabGreatPkC16
namespace Go.Proofs.YtokeciekncincabGreat
open Go Go.RowKit Go.Maps

def waitsL (D : LkS) (who : Int) : Spot × Int × Bool := match wishL D.W who with
  | none => ((0, false, 0), 0, false)
  | some e => (e.s, e.m, true)
theorem pw_ne {W : List LkE} (h : W.Pairwise fun a b => a.who ≠ b.who) {a b : LkE} (ha : a ∈ W) (hb : b ∈ W) (hne : a ≠ b) : a.who ≠ b.who := by
  induction W with
  | nil => cases ha
  | cons x W ih =>
    rw [List.pairwise_cons] at h
    rcases List.mem_cons.1 ha with h1 | h1 <;> rcases List.mem_cons.1 hb with h2 | h2
    · exact absurd (h1.trans h2.symm) hne
    · rw [h1]; exact h.1 b h2
    · rw [h2]; exact fun e => h.1 a h1 e.symm
    · exact ih h.2 h1 h2
theorem wait_at {D : LkS} (h : LInv D) {who : Int} {e : LkE} (hw : wishL D.W who = some e) {r : Int} (hr : IdxIs (prs (queueL D.H D.W e.s)) who r) : ∃ i : Nat, r = (i : Int) ∧ i < (prs (queueL D.H D.W e.s)).length ∧ (prs (queueL D.H D.W e.s))[i]? = some (who, e.m) := by
  obtain ⟨he, hwho⟩ := wish_some hw
  have hin : e ∈ queueL D.H D.W e.s := by
    unfold queueL upL restL
    by_cases h0 : heldL D.H e.who e.s = 0
    · exact List.mem_append.2 (.inr (List.mem_filter.2 ⟨he, by simp [h0]⟩))
    · exact List.mem_append.2 (.inl (List.mem_filter.2 ⟨he, by simp [h0]⟩))
  rcases hr with ⟨_, hn⟩ | ⟨i, rfl, hi, _, m, hm⟩
  · exact absurd hwho (hn (e.who, e.m) (List.mem_map.2 ⟨e, hin, rfl⟩))
  · refine ⟨i, rfl, hi, ?_⟩
    obtain ⟨x, hx, hxe⟩ := List.mem_map.1 (List.mem_iff_getElem?.2 ⟨i, hm⟩)
    have h1 := (queueL_mem hx).1
    have h2 : x.who = who := congrArg Prod.fst hxe
    have h3 : x = e := by
      apply Classical.byContradiction
      intro hne
      exact pw_ne h.wn h1 he hne (h2.trans hwho.symm)
    rw [hm, ← hxe, h3, ← hwho]
theorem enters_waits : ∀ args w, (callFunc 49 args).run Tryz.prog w = .ok (.enter 49 args) w := Go.Proofs.enters_of Tryz.func49 (by kernel_rfl) rfl
set_option maxRecDepth 100000 in
set_option maxHeartbeats 4000000 in
theorem waits_any {lb : Nat} {D : LkS} {S : Nat → Prop} {N : Nat} (who : Int) (w : World) (h : LkA w lb D S) (hD : DOk N D) (hN : N ≤ 100000) (hw : (Lit.int .i64 who).wf = true) :
    Calls Tryz.prog 14 #[lkp lb, .int .i64 who] w fun e w' => e = .returned (.tuple #[spV (waitsL D who).1, .int .u8 (waitsL D who).2.1, .bool (waitsL D who).2.2]) ∧ Fr w w' Nil := by
  obtain ⟨sb, wb, G, hv⟩ := h
  obtain ⟨wx, hwx⟩ : ∃ wx, (w.alloc (.cells #[.int .i64 who] 2)).alloc (.cells #[.int .i64 0, .bool false, .int .i64 0] 30) = wx := ⟨_, rfl⟩
  have hf : Fr w wx Nil := by rw [← hwx]; exact ((Fr.refl w Nil).alloc _).alloc _
  have hb1 : Bk wx w.heap.size 2 [.int .i64 who] := by rw [← hwx]; exact (Bk.new w _ _).alloc _
  have hb2 : Bk wx (w.heap.size + 1) 30 [.int .i64 0, .bool false, .int .i64 0] := by
    rw [← hwx]
    have := Bk.new (w.alloc (.cells #[.int .i64 who] 2)) 30 #[.int .i64 0, .bool false, .int .i64 0]
    rwa [World.size_alloc] at this
  have hz : wx.heap.size = w.heap.size + 2 := by rw [← hwx]; simp
  have hvx := hv.fr0 hf
  have k1 : ∀ w', KeptN wx w' → w'.cell? ⟨lb, 2, none⟩ = some (.map (some wb)) := KeptN.cell (hvx.root.cell 2)
  have k2 : ∀ w', KeptN wx w' → w'.cell? ⟨w.heap.size, 0, none⟩ = some (.int .i64 who) := KeptN.cell (hb1.cell 0)
  have hlk0 := look_wait (hvx).waits hw
  obtain ⟨gv, hgv⟩ : ∃ x, getV (pairsW D.W) who (0, false, 0) = x := ⟨_, rfl⟩
  obtain ⟨ok, hok⟩ : ∃ x, ((pairsW D.W).map Prod.fst).contains who = x := ⟨_, rfl⟩
  have k3 : ∀ w', KeptN wx w' → (Instr.lookup 57 (.map (some wb)) (.int .i64 who) true).run Tryz.prog w' = .ok (.tuple #[.agg #[.int .i64 gv.1, .bool gv.2.1, .int .i64 gv.2.2], .bool ok]) w' := fun w' hk' => by
    have h1 := look_wait (hvx.fr0 hk').waits hw
    rw [hgv, hok] at h1
    exact h1
  obtain ⟨R, hR⟩ : ∃ R, waitsL D who = R := ⟨_, rfl⟩
  rw [hR]
  have HRR := Lib.hid hR
  have HV := Lib.hid hvx
  have HF := Lib.hid hf
  have HB1 := Lib.hid hb1
  have HB2 := Lib.hid hb2
  have HZ := Lib.hid hz
  have HGV := Lib.hid hgv
  have HOK := Lib.hid hok
  have HD := Lib.hid hD
  have HN := Lib.hid hN
  have HW := Lib.hid hw
  clear hv hf hb1 hb2 hz hvx hlk0 hgv hok hD hN hw hR
  go_enter Tryz.func14, Tryz.ntmps14
  go_wp2_with fail
  refine wp_region_sink 11 (KeptN wx) (by kernel_rfl) ?_
  have hSa : KeptN wx wx.drew := KeptN.start wx
  refine tk 0 hSa ?_
  refine tk 1 hSa ?_
  refine tk 2 hSa ?_
  try simp only [Act.put, sA, sB, sC]
  refine tk 3 hSa ?_ (hy := by intro _ w; have ck1 := k1 _ w; go_simp <;> with_reducible rfl)
  try simp only [Act.put, sA, sB, sC]
  refine tk 4 hSa ?_ (hy := by intro _ w; have ck2 := k2 _ w; go_simp <;> with_reducible rfl)
  try simp only [Act.put, sA, sB, sC]
  refine tk 5 hSa ?_ (hy := by intro _ w; have ck3 := k3 _ w; go_simp <;> with_reducible rfl)
  try simp only [Act.put, sA, sB, sC]
  refine tk 6 hSa ?_
  refine tk 7 hSa ?_
  refine tk 8 hSa ?_
  try simp only [Act.put, sA, sB, sC]
  refine on1 9 fun K hK => ?_
  go_simp
  obtain ⟨wA, hwA⟩ : ∃ x, (wx.alloc (.cells #[.int .i64 0, .bool false, .int .i64 0] 30)).drew = x := ⟨_, rfl⟩
  rw [hwA]
  have hfA : Fr wx wA Nil := by rw [← hwA]; exact ((Fr.refl wx Nil).alloc _).drew
  have hbA : Bk wA wx.heap.size 30 [.int .i64 0, .bool false, .int .i64 0] := by rw [← hwA]; exact (Bk.new wx _ _).fr (Fr.refl _ Nil).drew (fun h => h)
  have hSb : KeptN wx wA := hfA
  refine hK.out _ _ hSb ?_
  clear hK K
  try simp only [Act.put, sA, sB, sC]
  have c0 : World.cell? wA ⟨wx.heap.size, 0, none⟩ = some (.int .i64 0) := hbA.cell 0
  have c1 : World.cell? wA ⟨wx.heap.size, 1, none⟩ = some (.bool false) := hbA.cell 1
  have c2 : World.cell? wA ⟨wx.heap.size, 2, none⟩ = some (.int .i64 0) := hbA.cell 2
  have f0 := hbA.free 0
  have f1 := hbA.free 1
  have f2 := hbA.free 2
  refine on1 10 fun K hK => ?_
  go_simp
  have hb6 := ((hbA.set 0 (.int .i64 gv.1)).set 1 (.bool gv.2.1)).set 2 (.int .i64 gv.2.2)
  have hf6 : Fr wA (((wA.setCell ⟨wx.heap.size, 0, none⟩ (.int .i64 gv.1)).setCell ⟨wx.heap.size, 1, none⟩ (.bool gv.2.1)).setCell ⟨wx.heap.size, 2, none⟩ (.int .i64 gv.2.2)) (fun k => k = wx.heap.size) := ((Fr.store _ _ _ _).trans (Fr.store _ _ _ _) fun _ _ h => h).trans (Fr.store _ _ _ _) fun _ _ h => h
  obtain ⟨wB, hwB⟩ : ∃ x, ((wA.setCell ⟨wx.heap.size, 0, none⟩ (.int .i64 gv.1)).setCell ⟨wx.heap.size, 1, none⟩ (.bool gv.2.1)).setCell ⟨wx.heap.size, 2, none⟩ (.int .i64 gv.2.2) = x := ⟨_, rfl⟩
  rw [hwB] at hb6 hf6 ⊢
  have hSc : KeptN wx wB := hfA.trans hf6 fun k hk e => by omega
  refine hK.out _ _ hSc ?_
  clear hK K c0 c1 c2 f0 f1 f2
  try simp only [Act.put, sA, sB, sC]
  refine wpAnyS_last (i := 11) rfl (by kernel_rfl) (by decide) (by kernel_rfl) (by rfl) fun K hK => ?_
  go_simp
  refine hK.out _ _ ?_
  clear hK K
  have HB6 := Lib.hid (show Bk wB wx.heap.size 30 [.int .i64 gv.1, .bool gv.2.1, .int .i64 gv.2.2] from hb6)
  have HFB := Lib.hid hSc.fr
  have HB2B := Lib.hid (HB2.out.fr hSc.fr fun h => h)
  clear hSa hSb hSc hfA hbA hb6 hf6 k1 k2 k3 hwA hwB
  have e0 : wB.cell? ⟨w.heap.size + 1, 0, none⟩ = some (.int .i64 0) := HB2B.out.cell 0
  have e1 : wB.cell? ⟨w.heap.size + 1, 1, none⟩ = some (.bool false) := HB2B.out.cell 1
  have e2 : wB.cell? ⟨w.heap.size + 1, 2, none⟩ = some (.int .i64 0) := HB2B.out.cell 2
  have g0 := HB2B.out.free 0
  have g1 := HB2B.out.free 1
  have g2 := HB2B.out.free 2
  cases hwi : wishL D.W who with
  | none =>
    have hw0 : R = ((0, false, 0), 0, false) := by rw [← HRR.out]; unfold waitsL; rw [hwi]
    subst hw0
    have hok := HOK.out
    rw [(wish_pairs (W := D.W) (who := who)).1 hwi] at hok
    subst hok
    clear hwi
    go_wp2_with fail
    have hbr := ((HB2B.out.set 0 (.int .i64 0)).set 1 (.bool false)).set 2 (.int .i64 0)
    have hfr : Fr wB (((wB.setCell ⟨w.heap.size + 1, 0, none⟩ (.int .i64 0)).setCell ⟨w.heap.size + 1, 1, none⟩ (.bool false)).setCell ⟨w.heap.size + 1, 2, none⟩ (.int .i64 0)) (fun k => k = w.heap.size + 1) := ((Fr.store _ _ _ _).trans (Fr.store _ _ _ _) fun _ _ h => h).trans (Fr.store _ _ _ _) fun _ _ h => h
    obtain ⟨wC, hwC⟩ : ∃ x, ((wB.setCell ⟨w.heap.size + 1, 0, none⟩ (.int .i64 0)).setCell ⟨w.heap.size + 1, 1, none⟩ (.bool false)).setCell ⟨w.heap.size + 1, 2, none⟩ (.int .i64 0) = x := ⟨_, rfl⟩
    rw [hwC] at hbr hfr ⊢
    have t0 : wC.cell? ⟨w.heap.size + 1, 0, none⟩ = some (.int .i64 0) := hbr.cell 0
    have t1 : wC.cell? ⟨w.heap.size + 1, 1, none⟩ = some (.bool false) := hbr.cell 1
    have t2 : wC.cell? ⟨w.heap.size + 1, 2, none⟩ = some (.int .i64 0) := hbr.cell 2
    refine bodyPost_ret (by simp [results, Tryz.results14, go_sem, t0, t1, t2]; try rfl) rfl ?_
    exact ⟨rfl, (HF.out.trans0 HFB.out).trans hfr fun k hk e => by omega⟩
  | some x =>
    have hw0 : R = (x.s, x.m, true) := by rw [← HRR.out]; unfold waitsL; rw [hwi]
    have hok := HOK.out
    have hgv := HGV.out
    rw [((wish_pairs (W := D.W) (who := who)).2 x hwi).1] at hok
    rw [((wish_pairs (W := D.W) (who := who)).2 x hwi).2] at hgv
    subst hok
    subst hgv
    have HWI := Lib.hid hwi
    obtain ⟨hxW, hxw⟩ := wish_some hwi
    have hws : SWf x.s := (HD.out.wf.2 x hxW).2
    have hvB := HV.out.fr0 HFB.out
    have hin : ∃ g, (x.s, g) ∈ G := by
      apply Classical.byContradiction
      intro hn
      obtain ⟨_, g2, g3⟩ := hvB.gone x.s fun p hp e => hn ⟨p.2, by rw [← e]; exact hp⟩
      have e2 : upL D.H D.W x.s = [] := List.map_eq_nil_iff.1 g2
      have e3 : restL D.H D.W x.s = [] := List.map_eq_nil_iff.1 g3
      by_cases h0 : heldL D.H x.who x.s = 0
      · have : x ∈ restL D.H D.W x.s := List.mem_filter.2 ⟨hxW, by simp [h0]⟩
        rw [e3] at this; cases this
      · have : x ∈ upL D.H D.W x.s := List.mem_filter.2 ⟨hxW, by simp [h0]⟩
        rw [e2] at this; cases this
    obtain ⟨g, hg⟩ := hin
    have HWAIT : Hid (∀ r, IdxIs (prs (queueL D.H D.W x.s)) who r → ∃ i : Nat, r = (i : Int) ∧ i < (prs (queueL D.H D.W x.s)).length ∧ (prs (queueL D.H D.W x.s))[i]? = some (who, x.m)) := fun r hr => wait_at HD.out.inv HWI.out hr
    obtain ⟨s, hs⟩ : ∃ s, x.s = s := ⟨_, rfl⟩
    obtain ⟨xm, hxm⟩ : ∃ s, x.m = s := ⟨_, rfl⟩
    rw [hs] at hws hg HWAIT HB6 hw0
    rw [hxm] at HWAIT hw0
    subst hw0
    have HXB := Lib.hid (hvB.at_ _ hg)
    have HQF := Lib.hid (Nat.le_trans (Nat.le_trans (queue_few HD.out s) HN.out) (by decide : 100000 ≤ 1000000))
    have HPQ := Lib.hid (prs_queue D.H D.W s)
    have hpl : (prs (queueL D.H D.W s)).length ≤ 1000000 := by
      have h1 := HPQ.out
      rw [h1, List.length_append]; exact HQF.out
    have k1 : ∀ w', KeptN wB w' → w'.cell? ⟨lb, 1, none⟩ = some (.map (some sb)) := KeptN.cell (hvB.root.cell 1)
    have k2 : ∀ w', KeptN wB w' → w'.cell? ⟨wx.heap.size, 0, none⟩ = some (.int .i64 s.1) := KeptN.cell (HB6.out.cell 0)
    have k3 : ∀ w', KeptN wB w' → w'.cell? ⟨wx.heap.size, 1, none⟩ = some (.bool s.2.1) := KeptN.cell (HB6.out.cell 1)
    have k4 : ∀ w', KeptN wB w' → w'.cell? ⟨wx.heap.size, 2, none⟩ = some (.int .i64 s.2.2) := KeptN.cell (HB6.out.cell 2)
    have k5 : ∀ w', KeptN wB w' → (Instr.lookup 56 (.map (some sb)) (.agg #[.int .i64 s.1, .bool s.2.1, .int .i64 s.2.2]) false).run Tryz.prog w' = .ok (xptr g.xb) w' := fun w' hk' => look_spot_in (hvB.fr0 hk').spots hws hg
    have HVB := Lib.hid hvB
    have HB1B := Lib.hid (HB1.out.fr HFB.out fun h => h)
    have HPL := Lib.hid hpl
    clear hwi hxW hxw hvB hg hs hxm hpl hws
    go_wp2_with fail
    refine wp_region_sink 7 (KeptN wB) (by kernel_rfl) ?_
    have hSa : KeptN wB wB.drew := KeptN.start wB
    refine tk 0 hSa ?_
    refine tk 1 hSa ?_
    refine tk 2 hSa ?_
    try simp only [Act.put, sA, sB, sC]
    refine tk 3 hSa ?_ (hy := by intro _ w; have ck1 := k1 _ w; go_simp <;> with_reducible rfl)
    try simp only [Act.put, sA, sB, sC]
    refine tk 4 hSa ?_ (hy := by intro _ w; have ck2 := k2 _ w; have ck3 := k3 _ w; have ck4 := k4 _ w; go_simp <;> with_reducible rfl)
    try simp only [Act.put, sA, sB, sC]
    refine tk 5 hSa ?_ (hy := by intro _ w; have ck5 := k5 _ w; go_simp <;> with_reducible rfl)
    try simp only [Act.put, sA, sB, sC]
    refine on1 6 fun K hK => ?_
    go_simp
    refine (queue_any (HXB.out.fr0 hSa.fr) HQF.out).mono ?_
    rintro e wC ⟨v3, rfl, h1, h2, h3⟩
    have hSb : KeptN wB wC := hSa.next h3
    refine hK.out _ _ hSb ?_
    clear hK K
    try simp only [Act.put, sA, sB, sC]
    refine wpAnyS_last (i := 7) rfl (by kernel_rfl) (by decide) (by kernel_rfl) (by rfl) fun K hK => ?_
    go_simp
    refine hK.out _ _ ?_
    clear hK K
    rw [← HPQ.out] at h1
    generalize prs (queueL D.H D.W s) = ql at *
    obtain ⟨qa, qc, rfl⟩ := h1.shape
    have HQ := Lib.hid h1
    have HFC := Lib.hid hSb.fr
    have HB6C := HB6.out.fr hSb.fr (fun h => h)
    have HB1C := HB1B.out.fr hSb.fr (fun h => h)
    have HB2C := Lib.hid (HB2B.out.fr hSb.fr fun h => h)
    have HQB : Hid (∀ k, (Value.slice qa ql.length qc).ownBlock = some k → wB.heap.size ≤ k) := fun k hk => Nat.le_trans hSa.fr.size (h2 k hk)
    have hzB : wx.heap.size ≤ wB.heap.size := HFB.out.size
    have hnq : ∀ k, (Value.slice qa ql.length qc).ownBlock = some k → k ≠ w.heap.size + 1 := fun k hk e => by
      have h1 := HQB.out k hk; have h2 := HZ.out; omega
    have r0 : ∀ w', KeptR (fun k => k = w.heap.size + 1) wC w' → w'.cell? ⟨wx.heap.size, 0, none⟩ = some (.int .i64 s.1) := KeptR.cell (HB6C.cell 0) (fun e => by have h2 := HZ.out; have e : wx.heap.size = w.heap.size + 1 := e; omega)
    have r1 : ∀ w', KeptR (fun k => k = w.heap.size + 1) wC w' → w'.cell? ⟨wx.heap.size, 1, none⟩ = some (.bool s.2.1) := KeptR.cell (HB6C.cell 1) (fun e => by have h2 := HZ.out; have e : wx.heap.size = w.heap.size + 1 := e; omega)
    have r2 : ∀ w', KeptR (fun k => k = w.heap.size + 1) wC w' → w'.cell? ⟨wx.heap.size, 2, none⟩ = some (.int .i64 s.2.2) := KeptR.cell (HB6C.cell 2) (fun e => by have h2 := HZ.out; have e : wx.heap.size = w.heap.size + 1 := e; omega)
    have HB1C2 := Lib.hid HB1C
    clear h1 h2 h3 hSa hSb k1 k2 k3 k4 k5 e0 e1 e2 g0 g1 g2 HB6C HB1C
    go_wp2_with fail
    refine wp_region_sink 10 (KeptR (fun k => k = w.heap.size + 1) wC) (by kernel_rfl) ?_
    have hSa : KeptR (fun k => k = w.heap.size + 1) wC wC.drew := (KeptN.start wC).weak _
    refine tk 0 hSa ?_ (hy := by intro _ w; have cr0 := r0 _ w; have cr1 := r1 _ w; have cr2 := r2 _ w; go_simp <;> with_reducible rfl)
    try simp only [Act.put, sA, sB, sC]
    refine tk 1 hSa ?_
    refine tk 2 hSa ?_
    refine tk 3 hSa ?_
    try simp only [Act.put, sA, sB, sC]
    refine on1 4 fun K hK => ?_
    go_simp
    refine (idx_any (who := who) (wb := w.heap.size) (tells_waits ((HB1C2.out.fr (Fr.refl wC Nil).drew fun h => h).cell 0) (fun h => h)) (SlAt.of_own (HQ.out.fr (Fr.refl wC Nil).drew fun _ _ h => h)).1 HPL.out enters_waits).mono ?_
    rintro e wD ⟨r, rfl, hidx, hfD⟩
    obtain ⟨i, rfl, hil, hit⟩ := HWAIT.out r hidx
    have hSb : KeptR (fun k => k = w.heap.size + 1) wC wD := hSa.trans hfD.of_nil fun _ _ h => h
    refine hK.out _ _ hSb ?_
    clear hK K
    try simp only [Act.put, sA, sB, sC]
    obtain ⟨b, cap', hvv, _, hcl⟩ := HQ.out.form (by omega)
    simp only [Value.slice.injEq, true_and] at hvv
    obtain ⟨rfl, rfl⟩ := hvv
    have hil2 : (i : Int) < (ql.length : Int) := by omega
    have k7 : ∀ w', KeptR (fun k => k = w.heap.size + 1) wC w' → w'.cell? ⟨b, i * 2 + 1, none⟩ = some (.int .u8 xm) := KeptR.cell (hcl i _ hit).2 (fun e => hnq b rfl e)
    clear hcl hidx hit
    refine tk 5 hSb ?_
    refine tk 6 hSb ?_
    try simp only [Act.put, sA, sB, sC]
    refine tk 7 hSb ?_ (hy := by intro _ w; have ck7 := k7 _ w; go_simp <;> with_reducible rfl)
    try simp only [Act.put, sA, sB, sC]
    have hb2D := HB2C.out.fr ((Fr.refl wC Nil).drew.trans0 hfD) (fun h => h)
    have c0 : wD.cell? ⟨w.heap.size + 1, 0, none⟩ = some (.int .i64 0) := hb2D.cell 0
    have c1 : wD.cell? ⟨w.heap.size + 1, 1, none⟩ = some (.bool false) := hb2D.cell 1
    have c2 : wD.cell? ⟨w.heap.size + 1, 2, none⟩ = some (.int .i64 0) := hb2D.cell 2
    have f0 := hb2D.free 0
    have f1 := hb2D.free 1
    have f2 := hb2D.free 2
    refine on1 8 fun K hK => ?_
    go_simp
    have hbr := ((hb2D.set 0 (.int .i64 s.1)).set 1 (.bool s.2.1)).set 2 (.int .i64 s.2.2)
    have hfr : Fr wD (((wD.setCell ⟨w.heap.size + 1, 0, none⟩ (.int .i64 s.1)).setCell ⟨w.heap.size + 1, 1, none⟩ (.bool s.2.1)).setCell ⟨w.heap.size + 1, 2, none⟩ (.int .i64 s.2.2)) (fun k => k = w.heap.size + 1) := ((Fr.store _ _ _ _).trans (Fr.store _ _ _ _) fun _ _ h => h).trans (Fr.store _ _ _ _) fun _ _ h => h
    obtain ⟨wE, hwE⟩ : ∃ x, ((wD.setCell ⟨w.heap.size + 1, 0, none⟩ (.int .i64 s.1)).setCell ⟨w.heap.size + 1, 1, none⟩ (.bool s.2.1)).setCell ⟨w.heap.size + 1, 2, none⟩ (.int .i64 s.2.2) = x := ⟨_, rfl⟩
    rw [hwE] at hbr hfr ⊢
    have hSc : KeptR (fun k => k = w.heap.size + 1) wC wE := Fr.trans hSb hfr fun _ _ h => h
    refine hK.out _ _ hSc ?_
    clear hK K c0 c1 c2 f0 f1 f2
    try simp only [Act.put, sA, sB, sC]
    refine tk 9 hSc ?_
    try simp only [Act.put, sA, sB, sC]
    refine wpAnyS_last (i := 10) rfl (by kernel_rfl) (by decide) (by kernel_rfl) (by rfl) fun K hK => ?_
    go_simp
    refine hK.out _ _ ?_
    clear hK K
    have HBR := Lib.hid hbr
    have HFE := Lib.hid (show Fr wC wE (fun k => k = w.heap.size + 1) from hSc)
    clear hSa hSb hSc hbr hfr hb2D hfD r0 r1 r2 k7 hwE
    go_wp2_with fail
    have t0 : wE.cell? ⟨w.heap.size + 1, 0, none⟩ = some (.int .i64 s.1) := HBR.out.cell 0
    have t1 : wE.cell? ⟨w.heap.size + 1, 1, none⟩ = some (.bool s.2.1) := HBR.out.cell 1
    have t2 : wE.cell? ⟨w.heap.size + 1, 2, none⟩ = some (.int .i64 s.2.2) := HBR.out.cell 2
    refine bodyPost_ret (by simp [results, Tryz.results14, go_sem, t0, t1, t2]; try rfl) rfl ?_
    exact ⟨rfl, ((HF.out.trans0 HFB.out).trans0 HFC.out).trans HFE.out fun k hk e => by omega⟩
end Go.Proofs.YtokeciekncincabGreat
