/-
  Walk of the law's tells: both tables tell the same; what the program gave out is written over, and nothing is turned by that.
  No condition but sizes.
-/
import Derived.Test.YtokeciekncincabGreatPkC41
import Derived.Test.YtokeciekncincabGreatPkC43
import Derived.Test.YtokeciekncincabGreatPkC44
import Derived.Test.YtokeciekncincabGreatPkC30
import Derived.Test.YtokeciekncincabGreatPkC6
import Derived.Deep.CutBlock
namespace Go.Proofs.YtokeciekncincabGreat
open Go Go.RowKit Go.Maps

/-- A row of its own, whatever it holds. -/
def RowK (w : World) (T size : Nat) (v : Value) (n : Nat) : Prop := ∃ cs, w.ownsRow 0 T size v n cs
theorem RowK.fr {w w' : World} {T size n : Nat} {v : Value} {S : Nat → Prop} (h : RowK w T size v n) (hf : Fr w w' S) (hv : ∀ k, v.ownBlock = some k → ¬ S k) : RowK w' T size v n := by
  obtain ⟨cs, h⟩ := h
  exact ⟨cs, hf.own h hv⟩
theorem RowK.open {w : World} {T size n : Nat} {v : Value} (h : RowK w T size v n) (hn : 0 < n) : ∃ b cap, v = .slice (some ⟨b, 0, none⟩) n cap ∧ (∀ o, o < n * size → ∃ u, w.cell? ⟨b, o, none⟩ = some u) ∧ (∀ o, w.frozen? ⟨b, o, none⟩ = false) ∧
    ∀ o u, RowK (w.setCell ⟨b, o, none⟩ u) T size v n ∧ Fr w (w.setCell ⟨b, o, none⟩ u) (fun k => v.ownBlock = some k) := by
  obtain ⟨cs, h⟩ := h
  rcases id h.2 with ⟨_, h0⟩ | ⟨g, cap, cur, rfl, _⟩
  · omega
  · refine ⟨g, cap, rfl, fun o ho => ?_, fun o => World.ownsRow.frozenAt h o, fun o u => ⟨⟨_, (World.ownsRow.stored h o u).1⟩, (Fr.store _ _ _ _).mono fun k _ hk => by rw [hk]; rfl⟩⟩
    rw [World.ownsRow.cellAt h o ho]
    exact ⟨_, List.getElem?_eq_getElem (by rw [h.1]; exact ho)⟩
section
variable {w : World} {lb mb : Nat} {D : LkS} {N K : Nat} {A : Nat → Prop} {cv : Value} {l : List CallK}
set_option maxRecDepth 100000 in
set_option maxHeartbeats 16000000 in
theorem ltells_any (h : Two w lb mb D D N K A) (hN : N ≤ 50000) (hc : KCallsAt w cv l) (hl : l.length ≤ 100000) :
    Calls Tryz.prog 9 #[lkp lb, mkp mb, cv] w fun e w' => e = .returned (.bool true) ∧ Fr w w' Nil := by
  obtain ⟨ca, cc, rfl, hcc⟩ := hc.shape
  have hN1 : N ≤ 100000 := by omega
  have hN8 : N ≤ 80000 := by omega
  have HOK := Lib.hid h.ok
  have HU := Lib.hid h
  have HC := Lib.hid hc
  have cU := h.u.used hN1
  have cU2 := fun (w' : World) (hf : Fr w w' Nil) => (HU.out.fr0 hf).m_used HOK.out hN8
  generalize usedL D = us at *
  have huu : ((us : Int) != (us : Int)) = false := by simp
  clear h hc
  go_enter Tryz.func9, Tryz.ntmps9
  go_wp2_with fail
  refine cU.mono ?_
  rintro e w1 ⟨rfl, hf1⟩
  have cU3 := cU2 _ hf1
  have HF1 := Lib.hid hf1
  clear cU cU2 hf1
  go_wp2_with fail
  refine cU3.mono ?_
  rintro e w2 ⟨rfl, hf2⟩
  have HF2 := Lib.hid (HF1.out.trans0 hf2)
  clear cU3 hf2
  go_wp2_with fail
  go_loopw [7] (fun vi wr => ∃ i : Nat, vi = .int .i64 (i : Int) ∧ i ≤ l.length ∧ Hid (Fr w wr Nil)) (fun vi _ => l.length - (intOf vi).toNat)
  case atStart => exact ⟨0, by go_num, by omega, HF2.out⟩
  case round =>
    clear HF1 HF2 huu
    obtain ⟨i, rfl, hi, HFR⟩ := hrel
    obtain ⟨wo, rfl⟩ : ∃ wo : World, wo = wr := ⟨_, rfl⟩
    by_cases hlt : i < l.length
    · have hil : (i : Int) < (l.length : Int) := by omega
      obtain ⟨b, off, cap', hvv, hcl⟩ := HC.out.form (by omega)
      simp only [Value.slice.injEq, true_and] at hvv
      obtain ⟨rfl, rfl⟩ := hvv
      obtain ⟨t, ht⟩ : ∃ t, l[i]? = some t := ⟨_, List.getElem?_eq_getElem hlt⟩
      have hcw : ∀ j u, t.vals[j]? = some u → wo.cell? ⟨b, off + i * 6 + j, none⟩ = some u := fun j u hu => HFR.out.cell (hcl i t ht j u hu) (fun h => h)
      have k1 : ∀ w', KeptN wo w' → w'.cell? ⟨b, off + i * 6 + 1, none⟩ = some (.int .i64 t.who) := KeptN.cell (hcw 1 _ rfl)
      have k2 : ∀ w', KeptN wo w' → w'.cell? ⟨b, off + i * 6 + 2, none⟩ = some (.int .i64 t.s.1) := KeptN.cell (hcw 2 _ rfl)
      have k3 : ∀ w', KeptN wo w' → w'.cell? ⟨b, off + i * 6 + 2 + 1, none⟩ = some (.bool t.s.2.1) := KeptN.cell (hcw 3 _ rfl)
      have k4 : ∀ w', KeptN wo w' → w'.cell? ⟨b, off + i * 6 + 2 + 2, none⟩ = some (.int .i64 t.s.2.2) := KeptN.cell (hcw 4 _ rfl)
      have OKW := Lib.hid t.okw
      have OKS := Lib.hid t.oks
      clear ht hcw hcl
      obtain ⟨_, who, s, _, _, _, _, _⟩ := t
      dsimp only at k1 k2 k3 k4
      dsimp only at OKW OKS
      go_wp2_with fail
      refine wp_region_sink 13 (KeptN wo) (by kernel_rfl) ?_
      have hSa : KeptN wo wo.drew := KeptN.start wo
      refine tkA 0 hSa ?_
      refine tkA 1 hSa ?_
      refine tkA 2 hSa ?_
      refine tkA 3 hSa ?_
      try simp only [Act.put, sA, sB, sC]
      refine tkA 4 hSa ?_ (hy := by intro _ w; have ck2 := k2 _ w; have ck3 := k3 _ w; have ck4 := k4 _ w; go_simp <;> with_reducible rfl)
      try simp only [Act.put, sA, sB, sC]
      refine tkA 5 hSa ?_
      refine tkA 6 hSa ?_
      refine tkA 7 hSa ?_
      refine tkA 8 hSa ?_
      try simp only [Act.put, sA, sB, sC]
      refine tkA 9 hSa ?_ (hy := by intro _ w; have ck1 := k1 _ w; go_simp <;> with_reducible rfl)
      try simp only [Act.put, sA, sB, sC]
      refine on1 10 fun K hK => ?_
      go_simp
      obtain ⟨wa, hwa⟩ : ∃ z, (wo.alloc (.cells #[.int .i64 0, .bool false, .int .i64 0] 30)).drew = z := ⟨_, rfl⟩
      try rw [hwa]
      have hfa : Fr wo wa Nil := by rw [← hwa]; exact ((Fr.refl wo Nil).alloc _).drew
      have hba : Bk wa wo.heap.size 30 [.int .i64 0, .bool false, .int .i64 0] := by rw [← hwa]; exact (Bk.new wo _ _).drew
      have hSb : KeptN wo wa := hfa
      refine hK.out _ _ hSb ?_
      clear hK K
      try simp only [Act.put, sA, sB, sC]
      have z0 : wa.cell? ⟨wo.heap.size, 0, none⟩ = some (.int .i64 0) := hba.cell 0
      have z1 : wa.cell? ⟨wo.heap.size, 1, none⟩ = some (.bool false) := hba.cell 1
      have z2 : wa.cell? ⟨wo.heap.size, 2, none⟩ = some (.int .i64 0) := hba.cell 2
      have y0 : wa.frozen? ⟨wo.heap.size, 0, none⟩ = false := hba.free 0
      have y1 : wa.frozen? ⟨wo.heap.size, 1, none⟩ = false := hba.free 1
      have y2 : wa.frozen? ⟨wo.heap.size, 2, none⟩ = false := hba.free 2
      refine on1 11 fun K hK => ?_
      go_simp
      obtain ⟨w6, hw6⟩ : ∃ z, ((wa.setCell ⟨wo.heap.size, 0, none⟩ (.int .i64 s.1)).setCell ⟨wo.heap.size, 1, none⟩ (.bool s.2.1)).setCell ⟨wo.heap.size, 2, none⟩ (.int .i64 s.2.2) = z := ⟨_, rfl⟩
      try rw [hw6]
      have hb6 : Bk w6 wo.heap.size 30 [.int .i64 s.1, .bool s.2.1, .int .i64 s.2.2] := by rw [← hw6]; exact ((hba.set 0 _).set 1 _).set 2 _
      have hf6 : Fr wo w6 Nil := by
        rw [← hw6]
        exact ((hfa.setCell (fun h => absurd h (by simp)) _).setCell (fun h => absurd h (by simp)) _).setCell (fun h => absurd h (by simp)) _
      refine hK.out _ _ hf6 ?_
      clear hK K
      try simp only [Act.put, sA, sB, sC]
      have hSc : KeptN wo w6 := hf6
      refine tkA 12 hSc ?_
      try simp only [Act.put, sA, sB, sC]
      refine wpAnyS_done (by kernel_rfl) ?_
      have HF6 := Lib.hid (HFR.out.trans0 hf6)
      have HB6 := Lib.hid hb6
      clear hSa hSb hSc hfa hba hb6 hf6 hwa hw6 z0 z1 z2 y0 y1 y2 k1 k2 k3 k4
      obtain ⟨bs, hbs⟩ : ∃ bs, wo.heap.size = bs := ⟨_, rfl⟩
      rw [hbs] at HB6
      try rw [hbs]
      go_wp2_with fail
      go_loopw [10] (fun vt wr => ∃ t : Nat, vt = .int .i64 (t : Int) ∧ t ≤ 2 ∧ Hid (Fr w6 wr Nil)) (fun vt _ => 2 - (intOf vt).toNat)
      case atStart => exact ⟨0, by go_num, by omega, Fr.refl _ _⟩
      case round =>
        obtain ⟨t, rfl, ht, HFT⟩ := hrel
        obtain ⟨wt, rfl⟩ : ∃ wo : World, wo = wr := ⟨_, rfl⟩
        by_cases ht2 : t < 2
        · have hti : (t : Int) < 2 := by omega
          have HFA := Lib.hid (HF6.out.trans0 HFT.out)
          have hbt := HB6.out.fr HFT.out (fun h => h)
          have k2 : ∀ w', KeptN wt w' → w'.cell? ⟨bs, 0, none⟩ = some (.int .i64 s.1) := KeptN.cell (hbt.cell 0)
          have k3 : ∀ w', KeptN wt w' → w'.cell? ⟨bs, 1, none⟩ = some (.bool s.2.1) := KeptN.cell (hbt.cell 1)
          have k4 : ∀ w', KeptN wt w' → w'.cell? ⟨bs, 2, none⟩ = some (.int .i64 s.2.2) := KeptN.cell (hbt.cell 2)
          have cHo : ∀ w', Fr wt w' Nil → _ := fun w' hf => ((HU.out.fr0 (HFA.out.trans0 hf)).u).holders s hN1 OKS.out
          have cQu : ∀ w', Fr wt w' Nil → _ := fun w' hf => ((HU.out.fr0 (HFA.out.trans0 hf)).u).queue s hN1 OKS.out
          have cFo : ∀ w', Fr wt w' Nil → _ := fun w' hf => ((HU.out.fr0 (HFA.out.trans0 hf)).u).for_ who hN1 OKW.out
          have cSp : ∀ w', Fr wt w' Nil → _ := fun w' hf => ((HU.out.fr0 (HFA.out.trans0 hf)).u).spots who hN1 OKW.out
          have dHo : ∀ w', Fr wt w' Nil → _ := fun w' hf => (HU.out.fr0 (HFA.out.trans0 hf)).m_holders HOK.out hN8 s
          have dQu : ∀ w', Fr wt w' Nil → _ := fun w' hf => (HU.out.fr0 (HFA.out.trans0 hf)).m_queue HOK.out hN8 s
          have dFo : ∀ w', Fr wt w' Nil → _ := fun w' hf => (HU.out.fr0 (HFA.out.trans0 hf)).m_for HOK.out hN8 who
          have dSp : ∀ w', Fr wt w' Nil → _ := fun w' hf => (HU.out.fr0 (HFA.out.trans0 hf)).m_spots HOK.out hN8 who
          have HRE := Lib.hid (rholders_eq HOK.out.inv.hn s)
          have hlen1 := rkeys_len D.H s
          have hlen2 := queueL_le D.H D.W s
          have hlen3 := for_len HOK.out who
          have hlen4 := spotsD_len D.H who
          have hfew := HOK.out.few
          obtain ⟨La, hLa⟩ : ∃ x, rholdersL D.H s = x := ⟨_, rfl⟩
          have hla : La.length ≤ 100000 := by rw [← hLa]; unfold rholdersL; rw [List.length_map]; omega
          obtain ⟨Lb, hLb⟩ : ∃ x, queueL D.H D.W s = x := ⟨_, rfl⟩
          have hlb : Lb.length ≤ 100000 := by rw [← hLb]; omega
          obtain ⟨Lc, hLc⟩ : ∃ x, forL D who = x := ⟨_, rfl⟩
          have hlc : Lc.length ≤ 100000 := by rw [← hLc]; omega
          obtain ⟨Ld, hLd⟩ : ∃ x, spotsL D.H who = x := ⟨_, rfl⟩
          have hld : Ld.length ≤ 100000 := by rw [← hLd]; omega
          have HSO : Hid (SortedS Ld) := by
            have h9 : SortedS Ld := by rw [← hLd]; exact (spotsL_is _ _).1
            exact h9
          have hre := HRE.out
          rw [hLa] at dHo hre
          rw [← hre] at cHo
          rw [hLb] at cQu dQu
          rw [hLc] at cFo dFo
          rw [hLd] at cSp dSp
          clear HRE hre hLa hLb hLc hLd hlen1 hlen2 hlen3 hlen4 hfew hbt
          have hpa : (prs La).length = La.length := by unfold prs; rw [List.length_map]
          have hpb : (prs Lb).length = Lb.length := by unfold prs; rw [List.length_map]
          go_wp2_with fail
          refine wp_region_sink 16 (KeptN wt) (by kernel_rfl) ?_
          have hS0 : KeptN wt wt.drew := KeptN.start wt
          refine tkA 0 hS0 ?_
          try simp only [Act.put, sA, sB, sC]
          refine tkA 1 hS0 ?_ (hy := by intro _ w; have ck2 := k2 _ w; have ck3 := k3 _ w; have ck4 := k4 _ w; go_simp <;> with_reducible rfl)
          try simp only [Act.put, sA, sB, sC]
          refine tkA 3 hS0 ?_
          try simp only [Act.put, sA, sB, sC]
          refine tkA 4 hS0 ?_ (hy := by intro _ w; have ck2 := k2 _ w; have ck3 := k3 _ w; have ck4 := k4 _ w; go_simp <;> with_reducible rfl)
          try simp only [Act.put, sA, sB, sC]
          refine tkA 6 hS0 ?_
          refine tkA 7 hS0 ?_
          refine tkA 9 hS0 ?_
          refine tkA 10 hS0 ?_
          try simp only [Act.put, sA, sB, sC]
          refine on1 2 fun K hK => ?_
          go_simp
          refine (cHo _ hS0).mono ?_
          rintro e wA ⟨vwA, rfl, howA, hnwA, hfwA⟩
          obtain ⟨awA, cwA, rfl⟩ := howA.shape
          have hS1 : KeptN wt wA := KeptN.next hS0 hfwA
          refine hK.out _ _ hS1 ?_
          clear hK K
          try simp only [Act.put, sA, sB, sC]
          refine on1 5 fun K hK => ?_
          go_simp
          refine (cQu _ hS1).mono ?_
          rintro e wB ⟨vwB, rfl, howB, hnwB, hfwB⟩
          obtain ⟨awB, cwB, rfl⟩ := howB.shape
          have hS2 : KeptN wt wB := KeptN.next hS1 hfwB
          refine hK.out _ _ hS2 ?_
          clear hK K
          try simp only [Act.put, sA, sB, sC]
          refine on1 8 fun K hK => ?_
          go_simp
          refine (cFo _ hS2).mono ?_
          rintro e wC ⟨vwC, rfl, howC, hnwC, hfwC⟩
          obtain ⟨awC, cwC, rfl⟩ := howC.shape
          have hS3 : KeptN wt wC := KeptN.next hS2 hfwC
          refine hK.out _ _ hS3 ?_
          clear hK K
          try simp only [Act.put, sA, sB, sC]
          refine on1 11 fun K hK => ?_
          go_simp
          refine (cSp _ hS3).mono ?_
          rintro e wD ⟨vwD, rfl, howD, hnwD, hfwD⟩
          obtain ⟨awD, cwD, rfl⟩ := howD.shape
          have hS4 : KeptN wt wD := KeptN.next hS3 hfwD
          refine hK.out _ _ hS4 ?_
          clear hK K
          try simp only [Act.put, sA, sB, sC]
          refine tkA 12 hS4 ?_
          refine tkA 13 hS4 ?_
          refine tkA 14 hS4 ?_
          refine tkA 15 hS4 ?_
          try simp only [Act.put, sA, sB, sC]
          refine wpAnyS_done (by kernel_rfl) ?_
          have HDA : Hid (∀ k, (Value.slice awA (prs La).length cwA).ownBlock = some k → wt.heap.size ≤ k ∧ k < wA.heap.size) := fun k hk => ⟨Nat.le_trans (Fr.size hS0) (hnwA k hk), howA.lt hk⟩
          have HDB : Hid (∀ k, (Value.slice awB (prs Lb).length cwB).ownBlock = some k → wA.heap.size ≤ k ∧ k < wB.heap.size) := fun k hk => ⟨hnwB k hk, howB.lt hk⟩
          have HDC : Hid (∀ k, (Value.slice awC Lc.length cwC).ownBlock = some k → wB.heap.size ≤ k ∧ k < wC.heap.size) := fun k hk => ⟨hnwC k hk, howC.lt k hk⟩
          have HDD : Hid (∀ k, (Value.slice awD Ld.length cwD).ownBlock = some k → wC.heap.size ≤ k ∧ k < wD.heap.size) := fun k hk => ⟨hnwD k hk, howD.lt hk⟩
          have HSZ : Hid (wt.heap.size ≤ wA.heap.size ∧ wA.heap.size ≤ wB.heap.size ∧ wB.heap.size ≤ wC.heap.size ∧ wC.heap.size ≤ wD.heap.size) := ⟨Nat.le_trans (Fr.size hS0) hfwA.size, hfwB.size, hfwC.size, hfwD.size⟩
          have HOA := Lib.hid (((howA.fr hfwB fun _ _ h => h).fr hfwC fun _ _ h => h).fr hfwD fun _ _ h => h)
          have HOB := Lib.hid ((howB.fr hfwC fun _ _ h => h).fr hfwD fun _ _ h => h)
          have HOC := Lib.hid (howC.fr hfwD fun _ _ h => h)
          have HOD := Lib.hid howD
          have HFD : Hid (Fr wt wD Nil) := hS4
          have HXA : Hid (Bk wD bs 30 [.int .i64 s.1, .bool s.2.1, .int .i64 s.2.2]) := HB6.out.fr (HFT.out.trans0 hS4) (fun h => h)
          clear hS0 hS1 hS2 hS3 hS4 howA howB howC howD hnwA hnwB hnwC hnwD hfwA hfwB hfwC hfwD cHo cQu cFo cSp k2 k3 k4
          rw [hpa] at HDA HOA
          rw [hpb] at HDB HOB
          have k2 : wD.cell? ⟨bs, 0, none⟩ = some (.int .i64 s.1) := HXA.out.cell 0
          have k3 : wD.cell? ⟨bs, 1, none⟩ = some (.bool s.2.1) := HXA.out.cell 1
          have k4 : wD.cell? ⟨bs, 2, none⟩ = some (.int .i64 s.2.2) := HXA.out.cell 2
          have HPA := Lib.hid hpa
          have HPB := Lib.hid hpb
          clear hpa hpb
          have HGD : Hid (Fr wD wD Nil) := Fr.refl _ _
          go_wp2_with fail
          refine (dHo wD (HFD.out.trans0 HGD.out)).mono ?_
          rintro e wE ⟨vv, rfl, hE, hfE⟩
          obtain ⟨aE, cE, rfl⟩ := hE.1.shape
          have HGE := Lib.hid (HGD.out.trans0 hfE)
          have cX := lholds_any wE (HOA.out.fr HGE.out fun _ _ h => h) hE.1 (by omega)
          clear dHo hfE hE k2 k3 k4
          go_wp2_with fail
          refine cX.mono ?_
          rintro e wF ⟨rfl, hfX⟩
          have HGF := Lib.hid (HGE.out.trans0 hfX)
          clear cX hfX
          have k2 : wF.cell? ⟨bs, 0, none⟩ = some (.int .i64 s.1) := (HXA.out.fr HGF.out fun h => h).cell 0
          have k3 : wF.cell? ⟨bs, 1, none⟩ = some (.bool s.2.1) := (HXA.out.fr HGF.out fun h => h).cell 1
          have k4 : wF.cell? ⟨bs, 2, none⟩ = some (.int .i64 s.2.2) := (HXA.out.fr HGF.out fun h => h).cell 2
          go_wp2_with fail
          refine (dQu wF (HFD.out.trans0 HGF.out)).mono ?_
          rintro e wG ⟨vv, rfl, hE, hfE⟩
          obtain ⟨aE, cE, rfl⟩ := hE.1.shape
          have HGG := Lib.hid (HGF.out.trans0 hfE)
          have cX := lholds_any wG (HOB.out.fr HGG.out fun _ _ h => h) hE.1 (by omega)
          clear dQu hfE hE k2 k3 k4
          go_wp2_with fail
          refine cX.mono ?_
          rintro e wH ⟨rfl, hfX⟩
          have HGH := Lib.hid (HGG.out.trans0 hfX)
          clear cX hfX
          go_wp2_with fail
          refine (dFo wH (HFD.out.trans0 HGH.out)).mono ?_
          rintro e wI ⟨vv, rfl, hE, _, hfE⟩
          obtain ⟨aE, cE, rfl⟩ := hE.shape
          have HGI := Lib.hid (HGH.out.trans0 hfE)
          have cX := sameInts_any _ _ _ _ wI (HOC.out.fr HGI.out fun _ _ h => h).at hE.at (by omega) (by omega)
          rw [decide_eq_true rfl] at cX
          clear dFo hfE hE
          go_wp2_with fail
          refine cX.mono ?_
          rintro e wJ ⟨rfl, hfX⟩
          have HGJ := Lib.hid (HGI.out.trans0 hfX)
          clear cX hfX
          go_wp2_with fail
          refine (dSp wJ (HFD.out.trans0 HGJ.out)).mono ?_
          rintro e wK ⟨vv, rfl, hE, hfE⟩
          obtain ⟨aE, cE, rfl⟩ := hE.1.shape
          have HGK := Lib.hid (HGJ.out.trans0 hfE)
          have cX := lspots_any wK (HOD.out.fr HGK.out fun _ _ h => h) hE.1 HSO.out (by omega)
          clear dSp hfE hE
          go_wp2_with fail
          refine cX.mono ?_
          rintro e wL ⟨rfl, hfX⟩
          have HGL := Lib.hid (HGK.out.trans0 hfX)
          clear cX hfX
          have HRA : Hid (RowK wL 67 2 (.slice awA La.length cwA) La.length) := by
            have h9 := HOA.out.fr HGL.out (fun _ _ h => h)
            unfold OwnH at h9
            rw [HPA.out] at h9
            exact ⟨_, h9⟩
          have HRB : Hid (RowK wL 67 2 (.slice awB Lb.length cwB) Lb.length) := by
            have h9 := HOB.out.fr HGL.out (fun _ _ h => h)
            unfold OwnH at h9
            rw [HPB.out] at h9
            exact ⟨_, h9⟩
          have HRC : Hid (RowK wL 2 1 (.slice awC Lc.length cwC) Lc.length) := ⟨_, HOC.out.fr HGL.out (fun _ _ h => h)⟩
          have HRD : Hid (RowK wL 30 3 (.slice awD Ld.length cwD) Ld.length) := ⟨_, HOD.out.fr HGL.out (fun _ _ h => h)⟩
          have HFL : Hid (Fr w6 wL Nil) := (HFT.out.trans0 HFD.out).trans0 HGL.out
          have HZT := Lib.hid HFT.out.size
          clear HOA HOB HOC HOD HGD HGE HGF HGG HGH HGI HGJ HGK HGL HXA HPA HPB HSO
          go_wp2_with fail
          go_loopw [15] (fun vj wr => ∃ j : Nat, vj = .int .i64 (j : Int) ∧ j ≤ La.length ∧ Hid (RowK wr 67 2 (.slice awA La.length cwA) La.length) ∧ Hid (Fr wL wr (fun k => (Value.slice awA La.length cwA).ownBlock = some k))) (fun vj _ => La.length - (intOf vj).toNat)
          case atStart => exact ⟨0, by go_num, by omega, HRA.out, Fr.refl _ _⟩
          case round =>
          obtain ⟨j, rfl, hj, HRJ, HFJ⟩ := hrel
          obtain ⟨wM, rfl⟩ : ∃ wo : World, wo = wr := ⟨_, rfl⟩
          by_cases hjn : j < La.length
          · have hji : (j : Int) < (La.length : Int) := by omega
            obtain ⟨bb, cap, hv, hcell, hfz, hset⟩ := HRJ.out.open (by omega)
            simp only [Value.slice.injEq, true_and] at hv
            obtain ⟨rfl, rfl⟩ := hv
            obtain ⟨u, hu⟩ := hcell (j * 2) (by omega)
            have hz := hfz (j * 2)
            have HST := Lib.hid (hset (j * 2) (.int .i64 (-9)))
            clear hcell hfz hset
            go_wp2_with fail
            go_roundw
            case rel => exact ⟨j + 1, by go_num, by omega, HST.out.1, HFJ.out.transS HST.out.2⟩
            case measure => simp [intOf]; omega
          have hjx : j = La.length := by omega
          subst hjx
          have HFM : Hid (Fr w6 wM Nil) := HFL.out.trans HFJ.out fun k hk h => by have h1 := (HDA.out k h).1; have h2 := HSZ.out; have h3 := HZT.out; omega
          have HRBn := Lib.hid (HRB.out.fr HFJ.out fun k hk h => by have h1 := HDA.out k h; have h2 := HDB.out k hk; have h3 := HSZ.out; omega)
          have HRCn := Lib.hid (HRC.out.fr HFJ.out fun k hk h => by have h1 := HDA.out k h; have h2 := HDC.out k hk; have h3 := HSZ.out; omega)
          have HRDn := Lib.hid (HRD.out.fr HFJ.out fun k hk h => by have h1 := HDA.out k h; have h2 := HDD.out k hk; have h3 := HSZ.out; omega)
          clear HRA HRJ HFJ HFL hj hjn
          clear HRB
          have HRB := HRBn
          clear HRBn
          clear HRC
          have HRC := HRCn
          clear HRCn
          clear HRD
          have HRD := HRDn
          clear HRDn
          go_wp2_with fail
          go_loopw [16] (fun vj wr => ∃ j : Nat, vj = .int .i64 (j : Int) ∧ j ≤ Lb.length ∧ Hid (RowK wr 67 2 (.slice awB Lb.length cwB) Lb.length) ∧ Hid (Fr wM wr (fun k => (Value.slice awB Lb.length cwB).ownBlock = some k))) (fun vj _ => Lb.length - (intOf vj).toNat)
          case atStart => exact ⟨0, by go_num, by omega, HRB.out, Fr.refl _ _⟩
          case round =>
          obtain ⟨j, rfl, hj, HRJ, HFJ⟩ := hrel
          obtain ⟨wN, rfl⟩ : ∃ wo : World, wo = wr := ⟨_, rfl⟩
          by_cases hjn : j < Lb.length
          · have hji : (j : Int) < (Lb.length : Int) := by omega
            obtain ⟨bb, cap, hv, hcell, hfz, hset⟩ := HRJ.out.open (by omega)
            simp only [Value.slice.injEq, true_and] at hv
            obtain ⟨rfl, rfl⟩ := hv
            obtain ⟨u, hu⟩ := hcell (j * 2) (by omega)
            have hz := hfz (j * 2)
            have HST := Lib.hid (hset (j * 2) (.int .i64 (-9)))
            clear hcell hfz hset
            go_wp2_with fail
            go_roundw
            case rel => exact ⟨j + 1, by go_num, by omega, HST.out.1, HFJ.out.transS HST.out.2⟩
            case measure => simp [intOf]; omega
          have hjx : j = Lb.length := by omega
          subst hjx
          have HFN : Hid (Fr w6 wN Nil) := HFM.out.trans HFJ.out fun k hk h => by have h1 := (HDB.out k h).1; have h2 := HSZ.out; have h3 := HZT.out; omega
          have HRCn := Lib.hid (HRC.out.fr HFJ.out fun k hk h => by have h1 := HDB.out k h; have h2 := HDC.out k hk; have h3 := HSZ.out; omega)
          have HRDn := Lib.hid (HRD.out.fr HFJ.out fun k hk h => by have h1 := HDB.out k h; have h2 := HDD.out k hk; have h3 := HSZ.out; omega)
          clear HRB HRJ HFJ HFM hj hjn
          clear HRC
          have HRC := HRCn
          clear HRCn
          clear HRD
          have HRD := HRDn
          clear HRDn
          go_wp2_with fail
          go_loopw [17] (fun vj wr => ∃ j : Nat, vj = .int .i64 (j : Int) ∧ j ≤ Lc.length ∧ Hid (RowK wr 2 1 (.slice awC Lc.length cwC) Lc.length) ∧ Hid (Fr wN wr (fun k => (Value.slice awC Lc.length cwC).ownBlock = some k))) (fun vj _ => Lc.length - (intOf vj).toNat)
          case atStart => exact ⟨0, by go_num, by omega, HRC.out, Fr.refl _ _⟩
          case round =>
          obtain ⟨j, rfl, hj, HRJ, HFJ⟩ := hrel
          obtain ⟨wO, rfl⟩ : ∃ wo : World, wo = wr := ⟨_, rfl⟩
          by_cases hjn : j < Lc.length
          · have hji : (j : Int) < (Lc.length : Int) := by omega
            obtain ⟨bb, cap, hv, hcell, hfz, hset⟩ := HRJ.out.open (by omega)
            simp only [Value.slice.injEq, true_and] at hv
            obtain ⟨rfl, rfl⟩ := hv
            obtain ⟨u, hu⟩ := hcell (j) (by omega)
            have hz := hfz (j)
            have HST := Lib.hid (hset (j) (.int .i64 (-9)))
            clear hcell hfz hset
            go_wp2_with fail
            go_roundw
            case rel => exact ⟨j + 1, by go_num, by omega, HST.out.1, HFJ.out.transS HST.out.2⟩
            case measure => simp [intOf]; omega
          have hjx : j = Lc.length := by omega
          subst hjx
          have HFO : Hid (Fr w6 wO Nil) := HFN.out.trans HFJ.out fun k hk h => by have h1 := (HDC.out k h).1; have h2 := HSZ.out; have h3 := HZT.out; omega
          have HRDn := Lib.hid (HRD.out.fr HFJ.out fun k hk h => by have h1 := HDC.out k h; have h2 := HDD.out k hk; have h3 := HSZ.out; omega)
          clear HRC HRJ HFJ HFN hj hjn
          clear HRD
          have HRD := HRDn
          clear HRDn
          go_wp2_with fail
          go_loopw [18] (fun vj wr => ∃ j : Nat, vj = .int .i64 (j : Int) ∧ j ≤ Ld.length ∧ Hid (RowK wr 30 3 (.slice awD Ld.length cwD) Ld.length) ∧ Hid (Fr wO wr (fun k => (Value.slice awD Ld.length cwD).ownBlock = some k))) (fun vj _ => Ld.length - (intOf vj).toNat)
          case atStart => exact ⟨0, by go_num, by omega, HRD.out, Fr.refl _ _⟩
          case round =>
          obtain ⟨j, rfl, hj, HRJ, HFJ⟩ := hrel
          obtain ⟨wP, rfl⟩ : ∃ wo : World, wo = wr := ⟨_, rfl⟩
          by_cases hjn : j < Ld.length
          · have hji : (j : Int) < (Ld.length : Int) := by omega
            obtain ⟨bb, cap, hv, hcell, hfz, hset⟩ := HRJ.out.open (by omega)
            simp only [Value.slice.injEq, true_and] at hv
            obtain ⟨rfl, rfl⟩ := hv
            obtain ⟨u, hu⟩ := hcell (j * 3) (by omega)
            have hz := hfz (j * 3)
            have HST := Lib.hid (hset (j * 3) (.int .i64 (-9)))
            clear hcell hfz hset
            go_wp2_with fail
            go_roundw
            case rel => exact ⟨j + 1, by go_num, by omega, HST.out.1, HFJ.out.transS HST.out.2⟩
            case measure => simp [intOf]; omega
          have hjx : j = Ld.length := by omega
          subst hjx
          have HFP : Hid (Fr w6 wP Nil) := HFO.out.trans HFJ.out fun k hk h => by have h1 := (HDD.out k h).1; have h2 := HSZ.out; have h3 := HZT.out; omega
          clear HRD HRJ HFJ HFO hj hjn
          go_wp2_with fail
          go_roundw
          case rel => exact ⟨t + 1, by go_num, by omega, HFP.out⟩
          case measure => simp [intOf]; omega
        · obtain rfl : t = 2 := by omega
          have HFA := Lib.hid (HF6.out.trans0 HFT.out)
          have HXA := Lib.hid (HB6.out.fr HFT.out (fun h => h))
          have cWa : ∀ w', Fr wt w' Nil → _ := fun w' hf => ((HU.out.fr0 (HFA.out.trans0 hf)).u).waits who hN1 OKW.out
          have dWa : ∀ w', Fr wt w' Nil → _ := fun w' hf => (HU.out.fr0 (HFA.out.trans0 hf)).m_waits HOK.out hN8 who
          have cHe : ∀ w', Fr wt w' Nil → _ := fun w' hf => ((HU.out.fr0 (HFA.out.trans0 hf)).u).held who s OKW.out OKS.out
          have dHe : ∀ w', Fr wt w' Nil → _ := fun w' hf => (HU.out.fr0 (HFA.out.trans0 hf)).m_held HOK.out hN8 who s
          generalize heldL D.H who s = hm at *
          obtain ⟨⟨⟨p1, p2, p3⟩, m, bw⟩, hww⟩ : ∃ x, waitsL D who = x := ⟨_, rfl⟩
          rw [hww] at cWa dWa
          dsimp only at cWa dWa
          clear hww
          go_wp2_with fail
          refine (cWa wt (Fr.refl _ _)).mono ?_
          rintro e w7 ⟨rfl, hf7⟩
          have HG7 := Lib.hid hf7
          obtain ⟨w8, hw8⟩ : ∃ w8, w7.alloc (.cells #[.int .i64 p1, .bool p2, .int .i64 p3] 30) = w8 := ⟨_, rfl⟩
          have hf8 : Fr w7 w8 Nil := by rw [← hw8]; exact (Fr.refl w7 Nil).alloc _
          have hb8 : Bk w8 w7.heap.size 30 [.int .i64 p1, .bool p2, .int .i64 p3] := by rw [← hw8]; exact Bk.new w7 _ _
          have HG8 := Lib.hid (HG7.out.trans0 hf8)
          have HB8 := Lib.hid hb8
          clear hf7 hf8 hb8 cWa
          go_wp2_with fail
          try rw [hw8]
          refine (dWa w8 HG8.out).mono ?_
          rintro e w9 ⟨rfl, hf9⟩
          have HG9 := Lib.hid (HG8.out.trans0 hf9)
          have HB9 := Lib.hid (HB8.out.fr hf9 fun h => h)
          obtain ⟨wa, hwa⟩ : ∃ wa, w9.alloc (.cells #[.int .i64 p1, .bool p2, .int .i64 p3] 30) = wa := ⟨_, rfl⟩
          have hfa : Fr w9 wa Nil := by rw [← hwa]; exact (Fr.refl w9 Nil).alloc _
          have hba : Bk wa w9.heap.size 30 [.int .i64 p1, .bool p2, .int .i64 p3] := by rw [← hwa]; exact Bk.new w9 _ _
          have hbx := HB9.out.fr hfa fun h => h
          have HGA := Lib.hid (HG9.out.trans0 hfa)
          have hxs := HXA.out.fr HGA.out (fun h => h)
          have k2 : ∀ w', KeptN wa w' → w'.cell? ⟨bs, 0, none⟩ = some (.int .i64 s.1) := KeptN.cell (hxs.cell 0)
          have k3 : ∀ w', KeptN wa w' → w'.cell? ⟨bs, 1, none⟩ = some (.bool s.2.1) := KeptN.cell (hxs.cell 1)
          have k4 : ∀ w', KeptN wa w' → w'.cell? ⟨bs, 2, none⟩ = some (.int .i64 s.2.2) := KeptN.cell (hxs.cell 2)
          have k5 : ∀ w', KeptN wa w' → w'.cell? ⟨w7.heap.size, 0, none⟩ = some (.int .i64 p1) := KeptN.cell (hbx.cell 0)
          have k6 : ∀ w', KeptN wa w' → w'.cell? ⟨w7.heap.size, 1, none⟩ = some (.bool p2) := KeptN.cell (hbx.cell 1)
          have k7 : ∀ w', KeptN wa w' → w'.cell? ⟨w7.heap.size, 2, none⟩ = some (.int .i64 p3) := KeptN.cell (hbx.cell 2)
          have k8 : ∀ w', KeptN wa w' → w'.cell? ⟨w9.heap.size, 0, none⟩ = some (.int .i64 p1) := KeptN.cell (hba.cell 0)
          have k9 : ∀ w', KeptN wa w' → w'.cell? ⟨w9.heap.size, 1, none⟩ = some (.bool p2) := KeptN.cell (hba.cell 1)
          have k10 : ∀ w', KeptN wa w' → w'.cell? ⟨w9.heap.size, 2, none⟩ = some (.int .i64 p3) := KeptN.cell (hba.cell 2)
          obtain ⟨s1, s2, s3⟩ := s
          dsimp only at k2 k3 k4 cHe dHe
          have h1 : (p1 == p1) = true := by simp
          have h2 : (p2 == p2) = true := by simp
          have h3 : (p3 == p3) = true := by simp
          have h4 : decide (p1 = p1) = true := by simp
          have h5 : decide (p2 = p2) = true := by simp
          have h6 : decide (p3 = p3) = true := by simp
          have h7 : (m != m) = false := by simp
          have h8 : (bw != bw) = false := by simp
          have h9 : (hm != hm) = false := by simp
          clear hf9 hfa hba hbx hxs dWa hw8 HB8 HB9
          go_wp2_with fail
          try rw [hwa]
          clear hwa
          refine wp_region_sink 24 (KeptN wa) (by kernel_rfl) ?_
          have hSa : KeptN wa wa.drew := KeptN.start wa
          refine tkA 0 hSa ?_ (hy := by intro _ w; have ck5 := k5 _ w; have ck6 := k6 _ w; have ck7 := k7 _ w; go_simp <;> with_reducible rfl)
          try simp only [Act.put, sA, sB, sC]
          refine tkA 1 hSa ?_ (hy := by intro _ w; have ck8 := k8 _ w; have ck9 := k9 _ w; have ck10 := k10 _ w; go_simp <;> with_reducible rfl)
          try simp only [Act.put, sA, sB, sC]
          refine tkA 2 hSa ?_
          refine tkA 3 hSa ?_
          try simp only [Act.put, sA, sB, sC]
          refine tkA 4 hSa ?_
          refine tkA 5 hSa ?_
          refine tkA 6 hSa ?_
          refine tkA 7 hSa ?_
          refine tkA 8 hSa ?_
          try simp only [Act.put, sA, sB, sC]
          refine tkA 9 hSa ?_
          refine tkA 10 hSa ?_
          refine tkA 11 hSa ?_
          refine tkA 12 hSa ?_
          refine tkA 13 hSa ?_
          try simp only [Act.put, sA, sB, sC]
          refine tkA 14 hSa ?_
          refine tkA 15 hSa ?_
          try simp only [Act.put, sA, sB, sC]
          refine tkA 16 hSa ?_ (hy := by intro _ w; have ck2 := k2 _ w; have ck3 := k3 _ w; have ck4 := k4 _ w; go_simp <;> with_reducible rfl)
          try simp only [Act.put, sA, sB, sC]
          refine tkA 18 hSa ?_
          refine tkA 19 hSa ?_
          try simp only [Act.put, sA, sB, sC]
          refine tkA 20 hSa ?_ (hy := by intro _ w; have ck2 := k2 _ w; have ck3 := k3 _ w; have ck4 := k4 _ w; go_simp <;> with_reducible rfl)
          try simp only [Act.put, sA, sB, sC]
          refine on1 17 fun K hK => ?_
          go_simp
          refine (cHe _ (HGA.out.trans0 hSa)).mono ?_
          rintro e wx ⟨rfl, hfx⟩
          have hSb : KeptN wa wx := KeptN.next hSa hfx
          refine hK.out _ _ hSb ?_
          clear hK K
          try simp only [Act.put, sA, sB, sC]
          refine on1 21 fun K hK => ?_
          go_simp
          refine (dHe _ (HGA.out.trans0 hSb)).mono ?_
          rintro e wy ⟨rfl, hfy⟩
          have hSc : KeptN wa wy := KeptN.next hSb hfy
          refine hK.out _ _ hSc ?_
          clear hK K
          try simp only [Act.put, sA, sB, sC]
          refine tkA 22 hSc ?_
          refine tkA 23 hSc ?_
          try simp only [Act.put, sA, sB, sC]
          refine wpAnyS_done (by kernel_rfl) ?_
          have HEND := Lib.hid (HFA.out.trans0 (HGA.out.trans0 hSc))
          clear hSa hSb hSc hfx hfy cHe dHe k2 k3 k4 k5 k6 k7 k8 k9 k10
          go_wp2_with fail
          go_roundw
          case rel => exact ⟨i + 1, by go_num, by omega, HEND.out⟩
          case measure => simp [intOf]; omega
    · obtain rfl : i = l.length := by omega
      go_wp2_with fail
      go_ret
      exact ⟨rfl, HFR.out⟩
end
end Go.Proofs.YtokeciekncincabGreat
