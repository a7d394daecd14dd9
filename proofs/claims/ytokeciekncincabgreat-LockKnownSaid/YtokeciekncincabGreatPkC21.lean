/-
  Walk of Holders: who holds a spot, rising.
  No condition but sizes.
-/
import Derived.Test.YtokeciekncincabGreatPkC17
import Derived.Test.YtokeciekncincabGreatKeysShelf
import Derived.Test.YtokeciekncincabGreatPkC16
import Derived.Test.YtokeciekncincabGreatPkC6
import Derived.Shelf.AbstractIn
import Derived.OwnWalkIn
import Derived.TacticsInMore
namespace Go.Proofs.YtokeciekncincabGreat
open Go Go.RowKit Go.Maps Go.Sort Go.Shelf

def keysM (M : List (Int × Int)) : List Int := (M.map Prod.fst).mergeSort (fun x y => decide (x ≤ y))
theorem keysM_perm (M : List (Int × Int)) : (keysM M).Perm (M.map Prod.fst) := List.mergeSort_perm _ _
theorem keysM_len (M : List (Int × Int)) : (keysM M).length = M.length := by rw [(keysM_perm M).length_eq, List.length_map]
def holdersL (H : List LkE) (s : Spot) : List (Int × Int) := (keysM (holdsOf H s)).map fun who => (who, heldL H who s)
theorem holdersL_len (H : List LkE) (s : Spot) : (holdersL H s).length = (holdsOf H s).length := by unfold holdersL; rw [List.length_map, keysM_len]
theorem keysM_ints {D : DataW Value} {M : List (Int × Int)} (h : MapIs ikey modV D M) : (intKeys D).Perm (M.map Prod.fst) := by
  obtain ⟨E, rfl, h1, _⟩ := h
  have h2 := h1.map (fun p : Lit × DataW Value => Go.intOf p.1)
  rw [List.map_map] at h2
  exact h2
theorem Tryz.sortsG (m : Nat) : AnyZI.SortsIn Tryz.prog Tryz.sortedG_ren Fence.wide m :=
  ⟨fun blk off cap ss W hH hblk hsz => callsIn_wide.2 (AnyM.slices_Sort_int Tryz.sortG blk off cap ss W hH hblk hsz),
   fun p cap W => callsIn_wide.2 (AnyM.slices_Sort_int_none Tryz.sortG p cap W)⟩
theorem keysm_any (mb : Option Nat) (W : World) : Calls Tryz.prog 54 #[.map mb] W fun e w' => e = .returned (.func (.func 84) #[] #[.pointer (some ⟨W.heap.size, 0, none⟩)]) ∧ w' = W.alloc (.cells #[.map mb] 72) :=
  (callsIn_wide (n := 5)).1 (AnyZI.keys_in Tryz.keysG Fence.wide 5 trivial rfl mb W)
set_option maxRecDepth 100000 in
theorem sortedm_any {mb : Nat} {M : List (Int × Int)} {W : World} (h : MapAt Tryz.prog 2 ikey modV W mb M) (hl : M.length ≤ 1000000) :
    Calls Tryz.prog 53 #[.func (.func 84) #[] #[.pointer (some ⟨W.heap.size, 0, none⟩)]] (W.alloc (.cells #[.map (some mb)] 72)) fun e w' => ∃ v, e = .returned v ∧ OwnInts w' 2 v (keysM M) ∧ (∀ k, v.ownBlock = some k → W.heap.size ≤ k) ∧ Fr W w' Nil := by
  obtain ⟨D, hown, hD⟩ := h
  have hkp := keysM_ints hD
  have hsz := hD.size
  have hbl := hown.lt
  have hseq : SeqGives Fence.wide 2 Tryz.prog 84 #[.pointer (some ⟨W.heap.size, 0, none⟩)] encZ (fun ss => ss.Perm (intKeys D)) (Maps.size D) (W.alloc (.cells #[.map (some mb)] 72)) :=
    AnyZI.keys_gives (ρ := Tryz.keysG_ren) { Tryz.keysG with } Fence.wide _ trivial rfl (by omega) W.heap.size mb _ D _ (by simp) (by simp) (by
      obtain ⟨es, clock, hb, Ft, hs, hD⟩ := hown
      exact ⟨es, clock, (Below.heap_alloc _ _ _ hbl).trans hb, Ft, hs, hD⟩)
  have cS := AnyZI.sorted_in Tryz.sortedG Fence.wide 5 trivial trivial trivial trivial rfl (by omega) (Tryz.sortsG _) (enters_of Tryz.func56 (by kernel_rfl) rfl) 84 #[.pointer (some ⟨W.heap.size, 0, none⟩)] trivial (enters_of Tryz.func84 (by kernel_rfl) rfl) _ _ (by rw [hsz]; unfold maxLen; omega) (by rw [hsz]; omega) _ hseq
  change CallsIn _ _ Tryz.prog 53 _ _ _ at cS
  refine ((callsIn_wide (n := 5)).1 cS).mono ?_
  rintro e w' ⟨v, ss, rfl, hS, hrow, hnil, hb⟩
  have hks : ss.mergeSort (fun x y => decide (x ≤ y)) = keysM M := mergeSort_of_perm_i (hS.trans hkp)
  have hlen : ss.length = (keysM M).length := by rw [← hks, List.length_mergeSort]
  rw [hks, hlen] at hrow
  refine ⟨v, rfl, own_mono hrow (Nat.zero_le _), fun k hk => ?_, ?_⟩
  · have := (World.ownsRow.lt hrow k hk).1
    simp at this
    omega
  · have h2 : Fr (W.alloc (.cells #[.map (some mb)] 72)) w' Nil := ⟨hb.os, hb.tape, hb.output, hb.size, fun k hk _ => hb.block k hk⟩
    exact ((Fr.refl W Nil).alloc _).trans0 h2
theorem keysM_mem {M : List (Int × Int)} {x : Int} (h : x ∈ keysM M) : ∃ p ∈ M, p.1 = x := by
  rw [(keysM_perm M).mem_iff] at h
  obtain ⟨p, hp, rfl⟩ := List.mem_map.1 h
  exact ⟨p, hp, rfl⟩
set_option maxRecDepth 100000 in
set_option maxHeartbeats 4000000 in
theorem holders_any {lb : Nat} {D : LkS} {S : Nat → Prop} {N : Nat} (s : Spot) (w : World) (h : LkA w lb D S) (hD : DOk N D) (hN : N ≤ 100000) (hs : SWf s) :
    Calls Tryz.prog 17 #[lkp lb, spV s] w (NewH (holdersL D.H s) w) := by
  obtain ⟨sb, wb, G, hv⟩ := h
  obtain ⟨wx, hwx⟩ : ∃ wx, w.alloc (.cells #[.int .i64 s.1, .bool s.2.1, .int .i64 s.2.2] 30) = wx := ⟨_, rfl⟩
  have hf : Fr w wx Nil := by rw [← hwx]; exact (Fr.refl w Nil).alloc _
  have hb : Bk wx w.heap.size 30 [.int .i64 s.1, .bool s.2.1, .int .i64 s.2.2] := by rw [← hwx]; exact Bk.new w _ _
  have hv2 := hv.fr0 hf
  have hwl := hv.lt
  have k1 : ∀ w', KeptN wx w' → w'.cell? ⟨lb, 1, none⟩ = some (.map (some sb)) := KeptN.cell (hv2.root.cell 1)
  have k2 : ∀ w', KeptN wx w' → w'.cell? ⟨w.heap.size, 0, none⟩ = some (.int .i64 s.1) := KeptN.cell (hb.cell 0)
  have k3 : ∀ w', KeptN wx w' → w'.cell? ⟨w.heap.size, 1, none⟩ = some (.bool s.2.1) := KeptN.cell (hb.cell 1)
  have k4 : ∀ w', KeptN wx w' → w'.cell? ⟨w.heap.size, 2, none⟩ = some (.int .i64 s.2.2) := KeptN.cell (hb.cell 2)
  have HF := Lib.hid hf
  have HB := Lib.hid hb
  have HLT := Lib.hid hv2.lt
  by_cases hin : ∃ g, (s, g) ∈ G
  · obtain ⟨g, hg⟩ := hin
    have HX := Lib.hid (hv2.at_ _ hg)
    have HV := Lib.hid hv2
    have HG := Lib.hid hg
    have hfew := holds_few hD s
    have HML : Hid ((holdsOf D.H s).length ≤ 1000000) := by have h9 : (holdsOf D.H s).length ≤ 1000000 := (by omega); exact h9
    have HSW := Lib.hid hs
    have HKM : Hid (∀ x ∈ keysM (holdsOf D.H s), (Lit.int .i64 x).wf = true) := fun x hx => by
      obtain ⟨p, hp, rfl⟩ := keysM_mem hx
      obtain ⟨e, he, rfl⟩ := List.mem_map.1 hp
      exact (hD.wf.1 e (List.mem_filter.1 he).1).1
    have k5 : ∀ w', KeptN wx w' → (Instr.lookup 56 (.map (some sb)) (.agg #[.int .i64 s.1, .bool s.2.1, .int .i64 s.2.2]) false).run Tryz.prog w' = .ok (xptr g.xb) w' := fun w' hk' => look_spot_in (hv2.fr0 hk').spots hs hg
    obtain ⟨ks, hks⟩ : ∃ ks, keysM (holdsOf D.H s) = ks := ⟨_, rfl⟩
    have HKS := Lib.hid hks
    have hkl := keysM_len (holdsOf D.H s)
    rw [hks] at hkl HKM
    have HKL : Hid (ks.length ≤ 1000000) := by have h9 : ks.length ≤ 1000000 := (by have := HML.out; omega); exact h9
    have hhl : holdersL D.H s = ks.map fun who => (who, heldL D.H who s) := by unfold holdersL; rw [hks]
    rw [hhl]
    obtain ⟨fh, hfh⟩ : ∃ fh : Int → Int × Int, (fun who => (who, heldL D.H who s)) = fh := ⟨_, rfl⟩
    rw [hfh]
    have HFH := Lib.hid hfh
    clear hv hv2 hf hb hg hD hN hfew hs hks hkl hhl hfh hwl
    go_enter Tryz.func17, Tryz.ntmps17
    go_wp2_with fail
    refine wp_region_sink 10 (KeptN wx) (by kernel_rfl) ?_
    have hSa : KeptN wx wx.drew := KeptN.start wx
    refine tk 0 hSa ?_
    refine tk 1 hSa ?_
    refine tk 2 hSa ?_
    refine tk 3 hSa ?_
    refine tk 4 hSa ?_
    refine tk 5 hSa ?_
    try simp only [Act.put, sA, sB, sC]
    refine tk 6 hSa ?_ (hy := by intro _ w; have ck1 := k1 _ w; go_simp <;> with_reducible rfl)
    try simp only [Act.put, sA, sB, sC]
    refine tk 7 hSa ?_ (hy := by intro _ w; have ck2 := k2 _ w; have ck3 := k3 _ w; have ck4 := k4 _ w; go_simp <;> with_reducible rfl)
    try simp only [Act.put, sA, sB, sC]
    refine tk 8 hSa ?_ (hy := by intro _ w; have ck5 := k5 _ w; go_simp <;> with_reducible rfl)
    try simp only [Act.put, sA, sB, sC]
    refine tk 9 hSa ?_
    try simp only [Act.put, sA, sB, sC]
    refine wpAnyS_last (i := 10) rfl (by kernel_rfl) (by decide) (by kernel_rfl) (by rfl) fun K hK => ?_
    go_simp
    refine hK.out _ _ ?_
    clear hK K
    go_wp2_with fail
    have hHd := (HX.out.fr0 (hSa.next (Fr.refl _ Nil).drew).fr).holds
    have k6 : ∀ w', KeptN wx w' → w'.cell? ⟨g.xb, 0, none⟩ = some (.map (some g.hb)) := KeptN.cell (HX.out.box.cell 0)
    refine wp_region_sink 13 (KeptN wx) (by kernel_rfl) ?_
    have hSb : KeptN wx wx.drew.drew := hSa.next (Fr.refl _ Nil).drew
    refine tkA 0 hSb ?_
    refine tkA 1 hSb ?_
    refine tkA 2 hSb ?_
    try simp only [Act.put, sA, sB, sC]
    refine tkA 3 hSb ?_ (hy := by intro _ w; have ck1 := k1 _ w; go_simp <;> with_reducible rfl)
    try simp only [Act.put, sA, sB, sC]
    refine tkA 4 hSb ?_ (hy := by intro _ w; have ck2 := k2 _ w; have ck3 := k3 _ w; have ck4 := k4 _ w; go_simp <;> with_reducible rfl)
    try simp only [Act.put, sA, sB, sC]
    refine tkA 5 hSb ?_ (hy := by intro _ w; have ck5 := k5 _ w; go_simp <;> with_reducible rfl)
    try simp only [Act.put, sA, sB, sC]
    refine tkA 6 hSb ?_
    refine tkA 7 hSb ?_
    try simp only [Act.put, sA, sB, sC]
    refine tkA 8 hSb ?_ (hy := by intro _ w; have ck6 := k6 _ w; go_simp <;> with_reducible rfl)
    try simp only [Act.put, sA, sB, sC]
    refine tkA 12 hSb ?_
    try simp only [Act.put, sA, sB, sC]
    refine on1 9 fun K hK => ?_
    go_simp
    refine (keysm_any _ _).mono ?_
    rintro e wA ⟨rfl, hwA⟩
    have hSc : KeptN wx wA := hSb.next (by rw [hwA]; exact (Fr.refl _ Nil).alloc _)
    refine hK.out _ _ hSc ?_
    clear hK K
    try simp only [Act.put, sA, sB, sC]
    refine on1 10 fun K hK => ?_
    go_simp
    try rw [hwA]
    have cSo := sortedm_any hHd HML.out
    rw [HKS.out] at cSo
    refine cSo.mono ?_
    rintro e wB ⟨v1, rfl, h1, h2, h3⟩
    obtain ⟨a1, c1, rfl⟩ := h1.shape
    have hSd : KeptN wx wB := hSb.next h3
    refine hK.out _ _ hSd ?_
    clear hK K
    try simp only [Act.put, sA, sB, sC]
    refine tkA 11 hSd ?_
    try simp only [Act.put, sA, sB, sC]
    refine wpAnyS_done (by kernel_rfl) ?_
    have HI := Lib.hid h1
    have HI2 : Hid (∀ k, (Value.slice a1 ks.length c1).ownBlock = some k → wx.heap.size ≤ k) := fun k hk => Nat.le_trans hSb.fr.size (h2 k hk)
    have HFB := Lib.hid hSd.fr
    clear hSa hSb hSc hSd hHd cSo h1 h2 h3 hwA k1 k2 k3 k4 k5 k6
    go_wp2_with fail
    go_loopw [5, 31] (fun vo vi wr => ∃ (i : Nat) (a : Option Addr) (c : Nat), vi = .int .i64 (i : Int) ∧ i ≤ ks.length ∧ vo = .slice a i c ∧ Hid (OwnH wr (.slice a i c) ((ks.take i).map fh)) ∧ Hid (∀ k, (Value.slice a i c).ownBlock = some k → wB.heap.size ≤ k) ∧ Hid (Fr wB wr Nil)) (fun _ vi _ => ks.length - (intOf vi).toNat)
    case atStart => exact ⟨0, none, 0, rfl, by omega, rfl, OwnH.nil _, (fun k hk => by cases hk), Fr.refl _ _⟩
    case round =>
      obtain ⟨i, a, c, rfl, hi, rfl, HO, HON, HFR⟩ := hrel
      obtain ⟨wo, rfl⟩ : ∃ wo : World, wo = wr := ⟨_, rfl⟩
      have HKR := Lib.hid (HFB.out.trans0 HFR.out)
      have hSW := HFR.out.size
      have hklx : ks.length ≤ 1000000 := HKL.out
      by_cases hlt : i < ks.length
      · have hil : (i : Int) < (ks.length : Int) := by omega
        obtain ⟨b1, cap1, hvv, _⟩ := HI.out.form (by omega)
        simp only [Value.slice.injEq, true_and] at hvv
        obtain ⟨rfl, rfl⟩ := hvv
        obtain ⟨x, hx⟩ : ∃ x, ks[i]? = some x := ⟨_, List.getElem?_eq_getElem hlt⟩
        have hc := HFR.out.cell (HI.out.cell rfl i hlt) (fun h => h)
        rw [List.getD_eq_getElem?_getD, hx] at hc
        simp only [Option.getD_some] at hc
        have HXW := Lib.hid (HKM.out x (List.mem_iff_getElem?.2 ⟨i, hx⟩))
        have HKX := Lib.hid hx
        have hvo := HV.out.fr0 HKR.out
        have hxo := HX.out.fr0 HKR.out
        have hbo := HB.out.fr HKR.out (fun h => h)
        have hnb : ∀ k, k < wB.heap.size → (Value.slice a i c).ownBlock ≠ some k := fun k hk e => by have := HON.out k e; omega
        have hsz : wx.heap.size ≤ wB.heap.size := HFB.out.size
        have hltb : ∀ k, k < wx.heap.size → (Value.slice a i c).ownBlock ≠ some k := fun k hk => hnb k (by omega)
        have k1 : ∀ w', KeptR (fun k => (Value.slice a i c).ownBlock = some k) wo w' → w'.cell? ⟨lb, 1, none⟩ = some (.map (some sb)) := KeptR.cell (hvo.root.cell 1) (hltb _ HV.out.root.lt)
        have k2 : ∀ w', KeptR (fun k => (Value.slice a i c).ownBlock = some k) wo w' → w'.cell? ⟨w.heap.size, 0, none⟩ = some (.int .i64 s.1) := KeptR.cell (hbo.cell 0) (hltb _ HB.out.lt)
        have k3 : ∀ w', KeptR (fun k => (Value.slice a i c).ownBlock = some k) wo w' → w'.cell? ⟨w.heap.size, 1, none⟩ = some (.bool s.2.1) := KeptR.cell (hbo.cell 1) (hltb _ HB.out.lt)
        have k4 : ∀ w', KeptR (fun k => (Value.slice a i c).ownBlock = some k) wo w' → w'.cell? ⟨w.heap.size, 2, none⟩ = some (.int .i64 s.2.2) := KeptR.cell (hbo.cell 2) (hltb _ HB.out.lt)
        have k5 : ∀ w', KeptR (fun k => (Value.slice a i c).ownBlock = some k) wo w' → (Instr.lookup 56 (.map (some sb)) (.agg #[.int .i64 s.1, .bool s.2.1, .int .i64 s.2.2]) false).run Tryz.prog w' = .ok (xptr g.xb) w' := fun w' hk' => look_spot_in (hvo.spots.fr hk' (hltb _ HV.out.spots.lt)) HSW.out HG.out
        have k6 : ∀ w', KeptR (fun k => (Value.slice a i c).ownBlock = some k) wo w' → w'.cell? ⟨g.xb, 0, none⟩ = some (.map (some g.hb)) := KeptR.cell (hxo.box.cell 0) (hltb _ HX.out.box.lt)
        have k7 : ∀ w', KeptR (fun k => (Value.slice a i c).ownBlock = some k) wo w' → (Instr.lookup 72 (.map (some g.hb)) (.int .i64 x) false).run Tryz.prog w' = .ok (.int .u8 (fh x).2) w' := fun w' hk' => by
          have h1 := look_held (hxo.holds.fr hk' (hltb _ HX.out.holds.lt)) HXW.out
          rw [getV_holds] at h1
          rw [← HFH.out]
          exact h1
        have HF1 : Hid ((fh x).1 = x) := Lib.hid (by rw [← HFH.out])
        obtain ⟨y, hy⟩ : ∃ y, (fh x).2 = y := ⟨_, rfl⟩
        rw [hy] at k7
        have HY : Hid (fh x = (x, y)) := Lib.hid (Prod.ext HF1.out hy)
        have HTK : Hid (ks.take (i + 1) = ks.take i ++ [x]) := by
          show _ = _
          rw [List.take_add_one, hx]; rfl
        have HLB : Hid (i + 1 ≤ 1000000) := by have h9 : i + 1 ≤ 1000000 := (by have := HKL.out; omega); exact h9
        have HLI : Hid (((ks.take i).map fh).length = i) := by
          show _ = _
          rw [List.length_map, List.length_take]; omega
        clear hx hvo hxo hbo hnb hsz hltb hy
        go_wp2_with fail
        refine wp_region_sink 16 (KeptR (fun k => (Value.slice a i c).ownBlock = some k) wo) (by kernel_rfl) ?_
        have hSa : KeptR (fun k => (Value.slice a i c).ownBlock = some k) wo wo.drew := (KeptN.start wo).weak _
        refine tk 0 hSa ?_
        refine tk 1 hSa ?_
        refine tk 2 hSa ?_
        refine tk 3 hSa ?_
        refine tk 4 hSa ?_
        try simp only [Act.put, sA, sB, sC]
        refine tk 5 hSa ?_ (hy := by intro _ w; have ck1 := k1 _ w; go_simp <;> with_reducible rfl)
        try simp only [Act.put, sA, sB, sC]
        refine tk 6 hSa ?_ (hy := by intro _ w; have ck2 := k2 _ w; have ck3 := k3 _ w; have ck4 := k4 _ w; go_simp <;> with_reducible rfl)
        try simp only [Act.put, sA, sB, sC]
        refine tk 7 hSa ?_ (hy := by intro _ w; have ck5 := k5 _ w; go_simp <;> with_reducible rfl)
        try simp only [Act.put, sA, sB, sC]
        refine tk 8 hSa ?_
        refine tk 9 hSa ?_
        try simp only [Act.put, sA, sB, sC]
        refine tk 10 hSa ?_ (hy := by intro _ w; have ck6 := k6 _ w; go_simp <;> with_reducible rfl)
        try simp only [Act.put, sA, sB, sC]
        refine tk 11 hSa ?_
        try simp only [Act.put, sA, sB, sC]
        refine tk 12 hSa ?_ (hy := by intro _ w; have ck7 := k7 _ w; go_simp <;> with_reducible rfl)
        try simp only [Act.put, sA, sB, sC]
        refine tk 13 hSa ?_
        try simp only [Act.put, sA, sB, sC]
        refine on1 14 fun K hK => ?_
        go_simp
        obtain ⟨wA, hwA⟩ : ∃ z, (wo.alloc (.cells #[.int .i64 x, .int .u8 y] 67)).drew = z := ⟨_, rfl⟩
        try rw [hwA]
        have hfwA : Fr wo wA Nil := by rw [← hwA]; exact ((Fr.refl wo Nil).alloc _).drew
        have hsl : SlAt wA 2 (.slice (some ⟨wo.heap.size, 0, none⟩) 1 1) 1 [.int .i64 x, .int .u8 y] := by rw [← hwA]; exact hold_new wo x y
        have hSb : KeptR (fun k => (Value.slice a i c).ownBlock = some k) wo wA := hfwA.of_nil
        refine hK.out _ _ hSb ?_
        clear hK K
        try simp only [Act.put, sA, sB, sC]
        have hown : wA.ownsRow 0 67 2 (.slice a i c) i (((ks.take i).map fh).flatMap hold2) := by
          have h1 := HO.out.fr hfwA (fun _ _ h => h)
          unfold OwnH at h1
          rw [HLI.out] at h1
          exact h1
        refine on1 15 fun K hK => ?_
        refine wp_app _ _ _ 48 rfl holdT (.slice a i c) rfl hown (.slice (some ⟨wo.heap.size, 0, none⟩) 1 1) rfl hsl (hold2_one [(x, y)]) HLB.out ?_
        intro ga gc W4 ho4 hg4 hb4
        have hSc : KeptR (fun k => (Value.slice a i c).ownBlock = some k) wo W4 := Fr.grown hSb hg4 fun k hk _ => hk
        have hv4 : OwnH W4 (.slice ga (i + 1) gc) ((ks.take (i + 1)).map fh) := by
          unfold OwnH
          rw [HTK.out, List.map_append, List.length_append, HLI.out, List.flatMap_append, List.map_cons, List.map_nil, HY.out]
          exact ho4
        have hfresh : ∀ k, (Value.slice ga (i + 1) gc).ownBlock = some k → wB.heap.size ≤ k := fun k hk => by
          rcases hb4 with h | h
          · exact HON.out k (by rw [← h]; exact hk)
          · rw [h] at hk
            have hk2 := Option.some.inj hk
            have := hfwA.size
            omega
        refine hK.out _ _ hSc ?_
        clear hK K
        try simp only [Act.put, sA, sB, sC]
        refine wpAnyS_last (i := 16) rfl (by kernel_rfl) (by decide) (by kernel_rfl) (by rfl) fun K hK => ?_
        go_simp
        refine hK.out _ _ ?_
        clear hK K
        have HO4 := Lib.hid hv4
        have HON4 := Lib.hid hfresh
        have HFR4 : Hid (Fr wB W4 Nil) := HFR.out.trans hSc fun k hk h => by have := HON.out k h; omega
        clear ho4 hg4 hb4 hv4 hfresh hSa hSb hSc hown hsl hfwA hwA k1 k2 k3 k4 k5 k6 k7 hc
        go_wp2_with fail
        go_roundw
        case rel => exact ⟨i + 1, ga, gc, by go_num, by omega, rfl, HO4, HON4, HFR4⟩
        case measure => simp [intOf]; omega
      · obtain rfl : i = ks.length := by omega
        have HO5 := HO
        rw [List.take_length] at HO5
        have hsz : wx.heap.size ≤ wB.heap.size := HFB.out.size
        have hsz2 : w.heap.size ≤ wx.heap.size := HF.out.size
        go_wp2_with fail
        go_ret
        exact ⟨_, rfl, HO5.out, fun k hk => by have := HON.out k hk; omega, HF.out.trans0 HKR.out⟩
  · have hno : ∀ p ∈ G, p.1 ≠ s := fun p hp e => hin ⟨p.2, by rw [← e]; exact hp⟩
    obtain ⟨hg1, _, _⟩ := hv.gone s hno
    have hg1' : holdsOf D.H s = [] := hg1
    have hnil : holdersL D.H s = [] := by unfold holdersL keysM; rw [hg1']; simp
    rw [hnil]
    have k5 : ∀ w', KeptN wx w' → (Instr.lookup 56 (.map (some sb)) (.agg #[.int .i64 s.1, .bool s.2.1, .int .i64 s.2.2]) false).run Tryz.prog w' = .ok (.pointer none) w' := fun w' hk' => look_spot_out (hv2.fr0 hk').spots hs hno
    clear hv hv2 hf hb hg1 hg1' hno hin hnil hwl
    go_enter Tryz.func17, Tryz.ntmps17
    go_wp2_with fail
    refine wp_region_sink 10 (KeptN wx) (by kernel_rfl) ?_
    have hSa : KeptN wx wx.drew := KeptN.start wx
    refine tk 0 hSa ?_
    refine tk 1 hSa ?_
    refine tk 2 hSa ?_
    refine tk 3 hSa ?_
    refine tk 4 hSa ?_
    refine tk 5 hSa ?_
    try simp only [Act.put, sA, sB, sC]
    refine tk 6 hSa ?_ (hy := by intro _ w; have ck1 := k1 _ w; go_simp <;> with_reducible rfl)
    try simp only [Act.put, sA, sB, sC]
    refine tk 7 hSa ?_ (hy := by intro _ w; have ck2 := k2 _ w; have ck3 := k3 _ w; have ck4 := k4 _ w; go_simp <;> with_reducible rfl)
    try simp only [Act.put, sA, sB, sC]
    refine tk 8 hSa ?_ (hy := by intro _ w; have ck5 := k5 _ w; go_simp <;> with_reducible rfl)
    try simp only [Act.put, sA, sB, sC]
    refine tk 9 hSa ?_
    try simp only [Act.put, sA, sB, sC]
    refine wpAnyS_last (i := 10) rfl (by kernel_rfl) (by decide) (by kernel_rfl) (by rfl) fun K hK => ?_
    go_simp
    refine hK.out _ _ ?_
    clear hK K
    have HFS := Lib.hid (HF.out.trans0 hSa.fr)
    clear hSa k1 k2 k3 k4 k5
    go_wp2_with fail
    go_ret
    exact ⟨.slice none 0 0, rfl, OwnH.nil _, (fun k hk => by cases hk), HFS.out⟩
end Go.Proofs.YtokeciekncincabGreat
