/-
  What Leave gives up: plain, and where it lies.
  No condition.
  Walk of Leave.
  No condition but sizes.
-/
import Derived.Test.YtokeciekncincabGreatPkC11
import Derived.Test.YtokeciekncincabGreatPkC1
import Derived.Test.YtokeciekncincabGreatPkC13
import Derived.Test.YtokeciekncincabGreatPkC15
import Derived.Test.YtokeciekncincabGreatPkC17
namespace Go.Proofs.YtokeciekncincabGreat
open Go Go.RowKit Go.Maps

theorem sortS_weak (l : List Spot) : (sortS l).Pairwise fun a b => a = b ∨ lessS a b = true := by
  have h1 := List.pairwise_mergeSort (le := leO) (fun a b c hab hbc => by
    unfold leO at *
    rw [Bool.not_eq_true'] at *
    exact swoO.ntrans _ _ _ hbc hab) (fun a b => by
    unfold leO
    rw [Bool.or_eq_true, Bool.not_eq_true', Bool.not_eq_true', ordZ_less, ordZ_less]
    cases h : lessS b a with
    | false => exact .inl rfl
    | true => exact .inr (lessS_asymm h)) l
  exact h1.imp fun {a b} h => by
    unfold leO at h
    rw [Bool.not_eq_true', ordZ_less] at h
    by_cases e : a = b
    · exact .inl e
    · exact .inr (lessS_total (fun e2 => e e2.symm) h)
theorem leaveAll_sorted (D : LkS) (who : Int) : SortedS (leaveAll D who) := by
  unfold leaveAll
  split
  · exact (spotsL_is _ _).1
  · exact addL_sorted (spotsL_is _ _).1 _
theorem pack_leave {D : LkS} {who : Int} {ks : List Spot} (h : ∀ x, x ∈ ks ↔ x ∈ leaveAll D who) : packS (sortS ks) = leaveAll D who :=
  packS_is (sortS_weak ks) (leaveAll_sorted D who) fun x => by
    rw [← h]
    exact (List.mergeSort_perm ks leO).mem_iff
theorem leaveAll_of (D : LkS) (who : Int) : ∀ s ∈ spotsL D.H who, s ∈ leaveAll D who := fun s hs => by
  unfold leaveAll
  split
  · exact hs
  · exact (addL_mem _ _ _).2 (.inl hs)
theorem leaveAll_none {D : LkS} {who : Int} (h : wishL D.W who = none) : ∀ x, x ∈ spotsL D.H who ↔ x ∈ leaveAll D who := fun x => by
  unfold leaveAll; rw [h]
theorem leaveAll_some {D : LkS} {who : Int} {e : LkE} (h : wishL D.W who = some e) : ∀ x, x ∈ spotsL D.H who ++ [e.s] ↔ x ∈ leaveAll D who := fun x => by
  unfold leaveAll; rw [h, List.mem_append, List.mem_singleton, addL_mem]
theorem LkV.keyed {w : World} {lb sb wb : Nat} {D : LkS} {V : List (Int × Spot)} {G : List (Spot × GX)} {S : Nat → Prop} (h : LkV w lb sb wb D V G S) {e : LkE} (he : e ∈ D.H) : ∃ g, (e.s, g) ∈ G := by
  apply Classical.byContradiction
  intro hn
  have h4 := (h.gone e.s fun p hp e2 => hn ⟨p.2, by rw [← e2]; exact hp⟩).1
  have h5 : (e.who, e.m) ∈ holdsOf D.H e.s := List.mem_map.2 ⟨e, List.mem_filter.2 ⟨he, by simp⟩, rfl⟩
  rw [h4] at h5; cases h5
theorem leaveI_none {w : World} {lb : Nat} {D : LkS} {S : Nat → Prop} {who : Int} (hw : wishL D.W who = none) (h : LkA w lb D S) : LkI w lb { D with W := dropA D.W who } S (fun s => s ∈ leaveAll D who) := by
  obtain ⟨sb, wb, G, hv⟩ := h
  have hd : dropA D.W who = D.W := List.filter_eq_self.2 fun e he => by simpa using wish_none hw e he
  rw [hd]
  refine ⟨sb, wb, G, hv, fun s hs => ?_⟩
  obtain ⟨e, he, _, rfl⟩ := ((spotsL_is D.H who).2 s).1 ((leaveAll_none hw s).2 hs)
  exact hv.keyed he
theorem leaveI_some {w : World} {lb : Nat} {D : LkS} {S : Nat → Prop} {who : Int} {x : LkE} (hw : wishL D.W who = some x) (h : LkI w lb { D with W := dropA D.W who } S (fun s => s = x.s)) : LkI w lb { D with W := dropA D.W who } S (fun s => s ∈ leaveAll D who) := by
  obtain ⟨sb, wb, G, hv, hk⟩ := h
  refine ⟨sb, wb, G, hv, fun s hs => ?_⟩
  rcases List.mem_append.1 ((leaveAll_some hw s).2 hs) with hs | hs
  · obtain ⟨e, he, _, rfl⟩ := ((spotsL_is D.H who).2 s).1 hs
    exact hv.keyed (e := e) he
  · exact hk s (List.mem_singleton.1 hs)
theorem DOk.leave {N : Nat} {D : LkS} (h : DOk N D) (who : Int) : DOk N { D with H := D.H.filter fun e => e.who != who, W := dropA D.W who } := by
  refine ⟨leave_inv h.inv who, ?_, ⟨fun e he => h.wf.1 e (List.mem_filter.1 he).1, fun e he => h.wf.2 e (List.mem_filter.1 he).1⟩⟩
  have h1 : (dropA D.W who).length ≤ D.W.length := List.length_filter_le _ _
  have h2 := List.length_filter_le (fun e : LkE => e.who != who) D.H
  have := h.few
  show (D.H.filter fun e => e.who != who).length + (dropA D.W who).length ≤ N
  omega
theorem leaveAll_wf {N : Nat} {D : LkS} (h : DOk N D) (who : Int) : ∀ s ∈ leaveAll D who, SWf s := fun s hs => by
  cases hw : wishL D.W who with
  | none =>
    obtain ⟨e, he, _, rfl⟩ := ((spotsL_is D.H who).2 s).1 ((leaveAll_none hw s).2 hs)
    exact (h.wf.1 e he).2
  | some x =>
    rcases List.mem_append.1 ((leaveAll_some hw s).2 hs) with hs | hs
    · obtain ⟨e, he, _, rfl⟩ := ((spotsL_is D.H who).2 s).1 hs
      exact (h.wf.1 e he).2
    · rw [List.mem_singleton.1 hs]
      exact (h.wf.2 x (wish_some hw).1).2
theorem spotsL_len (H : List LkE) (who : Int) : (spotsL H who).length ≤ H.length := by
  obtain ⟨h1, h2⟩ := spotsL_is H who
  refine nodup_spots_le _ _ (h1.imp fun {a b} h e => by subst e; rw [lessS_irrefl] at h; cases h) fun s hs => ?_
  obtain ⟨e, he, _, hs2⟩ := (h2 s).1 hs
  exact ⟨e, he, hs2⟩
/-- Spots are given up, the first so many of a row. -/
def upTo (D : LkS) (who : Int) (ks : List Spot) (i : Nat) : LkS := { D with H := (ks.take i).foldl (fun H s => dropS H who s) D.H, W := dropA D.W who }
theorem upTo_next (D : LkS) (who : Int) {ks : List Spot} {i : Nat} {s : Spot} (h : ks[i]? = some s) : upTo D who ks (i + 1) = { upTo D who ks i with H := dropS (upTo D who ks i).H who s } := by
  unfold upTo
  rw [List.take_add_one, h]
  simp
theorem upTo_all {D : LkS} {who : Int} {ks : List Spot} (h : ∀ x, x ∈ ks ↔ x ∈ leaveAll D who) : upTo D who ks ks.length = { D with H := D.H.filter fun e => e.who != who, W := dropA D.W who } := by
  unfold upTo
  rw [List.take_length, drops_spots D.H who fun s hs => (h s).2 (leaveAll_of D who s hs)]
/-- One more. -/
theorem LkI.unhold {w w' : World} {lb : Nat} {D : LkS} {S : Nat → Prop} {who : Int} {ks : List Spot} {i : Nat} {s : Spot} {sb wb : Nat} {G : List (Spot × GX)} {g : GX} (hv : LkV w lb sb wb (upTo D who ks i) (pairsW (upTo D who ks i).W) G S) (hk : ∀ s, s ∈ ks → ∃ g, (s, g) ∈ G) (hi : ks[i]? = some s) (hg : (s, g) ∈ G)
    (hm : MapAt Tryz.prog 2 ikey modV w' g.hb ((holdsOf (upTo D who ks i).H s).filter fun p => !decide (p.1 = who))) (hf : Fr w w' (fun k => k = g.hb)) : LkI w' lb (upTo D who ks (i + 1)) S (fun s => s ∈ ks) := by
  obtain ⟨G', h1, h2⟩ := LkV.unhold hv (fun e he => by simpa using (List.mem_filter.1 he).2) hg hm hf
  rw [upTo_next D who hi]
  exact ⟨sb, wb, G', h1, fun s' hs' => h2 s' (hk s' hs')⟩
def LeaveRet (lb : Nat) (N : Nat) (R : List Int × LkS) (S : Nat → Prop) (w : World) (e : Ending) (w' : World) : Prop :=
  ∃ ov, e = .returned ov ∧ OwnInts w' 2 ov R.1 ∧ (∀ k, ov.ownBlock = some k → w.heap.size ≤ k) ∧ LkA w' lb R.2 S ∧ DOk N R.2 ∧ Fr w w' S
end Go.Proofs.YtokeciekncincabGreat
namespace Go.Proofs.YtokeciekncincabGreat
open Go Go.RowKit Go.Maps

set_option maxRecDepth 100000 in
set_option maxHeartbeats 8000000 in
theorem leave_any {lb : Nat} {D : LkS} {S : Nat → Prop} {N : Nat} (who : Int) (w : World) (h : LkA w lb D S) (hD : DOk N D) (hN : N ≤ 100000) (hw : (Lit.int .i64 who).wf = true) :
    Calls Tryz.prog 15 #[lkp lb, .int .i64 who] w (LeaveRet lb N (leaveL D who) S w) := by
  have cP := spots_any (N := N) who w h hD hN hw
  have HA := Lib.hid h
  have HD := Lib.hid hD
  have HN := Lib.hid hN
  have HW := Lib.hid hw
  have HLT := Lib.hid h.lt
  have hsl := spotsL_len D.H who
  have hfew := hD.few
  have HSL : Hid ((spotsL D.H who).length + 1 ≤ 1000000) := by have h9 : (spotsL D.H who).length + 1 ≤ 1000000 := (by omega); exact h9
  clear h hD hN hw hsl hfew
  go_enter Tryz.func15, Tryz.ntmps15
  go_wp2_with fail
  refine cP.mono ?_
  rintro e w1 ⟨v1, rfl, h1, h2, h3⟩
  obtain ⟨a1, c1, rfl⟩ := h1.shape
  have H1 := Lib.hid h1
  have H2 := Lib.hid h2
  have H3 := Lib.hid h3
  have cL := leaves_any (N := N) who w1 (HA.out.fr0 h3) HD.out HN.out HW.out
  clear h1 h2 h3 cP
  go_wp2_with fail
  refine cL.mono ?_
  rintro e w2 (⟨hwi, rfl, hA, hf⟩ | ⟨x, hwi, rfl, hI, hf⟩)
  · have HWI := Lib.hid hwi
    have HIN := Lib.hid (leaveI_none hwi (hA.fr0 ((Fr.refl w2 Nil).alloc (.cells #[.int .i64 0, .bool false, .int .i64 0] 30))))
    have HF := Lib.hid ((H3.out.of_nil.trans hf fun _ _ h => h).alloc (.cells #[.int .i64 0, .bool false, .int .i64 0] 30))
    have HO : Hid (OwnSp (w2.alloc (.cells #[.int .i64 0, .bool false, .int .i64 0] 30)) (.slice a1 (spotsL D.H who).length c1) (spotsL D.H who)) := (H1.out.fr hf fun k hk hS => by have := H2.out k hk; have := HLT.out k hS; omega).fr ((Fr.refl w2 Nil).alloc _) fun _ _ h => h
    have HKS := Lib.hid (leaveAll_none (D := D) (who := who) hwi)
    have HKL : Hid ((spotsL D.H who).length ≤ 1000000) := by have := HSL.out; have h9 : (spotsL D.H who).length ≤ 1000000 := (by omega); exact h9
    have HB2 : Hid (∀ k, (Value.slice a1 (spotsL D.H who).length c1).ownBlock = some k → w.heap.size ≤ k) := H2
    generalize spotsL D.H who = ks at *
    clear cL hwi hA hf H1 H2 H3
    go_wp2_with fail
    obtain ⟨w3, hw3⟩ : ∃ w3, w2.alloc (.cells #[.int .i64 0, .bool false, .int .i64 0] 30) = w3 := ⟨_, rfl⟩
    rw [hw3] at HIN HF HO ⊢
    clear hw3
    go_loopw [28] (fun vi wr => ∃ i : Nat, vi = .int .i64 (i : Int) ∧ i ≤ ks.length ∧ Hid (LkI wr lb (upTo D who ks i) S (fun s => s ∈ ks)) ∧ Hid (OwnSp wr (.slice a1 ks.length c1) ks) ∧ Hid (Fr w wr S)) (fun vi _ => ks.length - (intOf vi).toNat)
    case atStart =>
      refine ⟨0, rfl, by omega, ?_, HO.out, HF.out⟩
      obtain ⟨sb, wb, G, hv, hk⟩ := HIN.out
      exact ⟨sb, wb, G, hv, fun s hs => hk s ((HKS.out s).1 hs)⟩
    case round =>
      clear HIN HO HF
      obtain ⟨i, rfl, hi, HI, HO, HF⟩ := hrel
      obtain ⟨wo, rfl⟩ : ∃ wo : World, wo = wr := ⟨_, rfl⟩
      have hkl9 : ks.length ≤ 1000000 := HKL.out
      by_cases hlt : i < ks.length
      · have hil : (i : Int) < (ks.length : Int) := by omega
        obtain ⟨b, cap', hvv, _, hcl⟩ := HO.out.form (by omega)
        simp only [Value.slice.injEq, true_and] at hvv
        obtain ⟨rfl, rfl⟩ := hvv
        obtain ⟨s, hs⟩ : ∃ s, ks[i]? = some s := ⟨_, List.getElem?_eq_getElem hlt⟩
        obtain ⟨p0, p1, p2⟩ := hcl i s hs
        have HS := Lib.hid hs
        have HSW : Hid (SWf s) := leaveAll_wf HD.out who s ((HKS.out s).1 (List.mem_iff_getElem?.2 ⟨i, hs⟩))
        obtain ⟨sb, wb, G, hv, hk⟩ := HI.out
        obtain ⟨g, hg⟩ := hk s (List.mem_iff_getElem?.2 ⟨i, hs⟩)
        have HK := Lib.hid hk
        have HG := Lib.hid hg
        obtain ⟨w5, hw5⟩ : ∃ w5, wo.alloc (.cells #[.int .i64 s.1, .bool s.2.1, .int .i64 s.2.2] 30) = w5 := ⟨_, rfl⟩
        have hf5 : Fr wo w5 Nil := by rw [← hw5]; exact (Fr.refl wo Nil).alloc _
        have hb5 : Bk w5 wo.heap.size 30 [.int .i64 s.1, .bool s.2.1, .int .i64 s.2.2] := by rw [← hw5]; exact Bk.new wo _ _
        have hv5 := hv.fr0 hf5
        have hx5 := hv5.at_ _ hg
        have k1 : ∀ w', KeptN w5 w' → w'.cell? ⟨lb, 1, none⟩ = some (.map (some sb)) := KeptN.cell (hv5.root.cell 1)
        have k2 : ∀ w', KeptN w5 w' → w'.cell? ⟨wo.heap.size, 0, none⟩ = some (.int .i64 s.1) := KeptN.cell (hb5.cell 0)
        have k3 : ∀ w', KeptN w5 w' → w'.cell? ⟨wo.heap.size, 1, none⟩ = some (.bool s.2.1) := KeptN.cell (hb5.cell 1)
        have k4 : ∀ w', KeptN w5 w' → w'.cell? ⟨wo.heap.size, 2, none⟩ = some (.int .i64 s.2.2) := KeptN.cell (hb5.cell 2)
        have k5 : ∀ w', KeptN w5 w' → (Instr.lookup 56 (.map (some sb)) (.agg #[.int .i64 s.1, .bool s.2.1, .int .i64 s.2.2]) false).run Tryz.prog w' = .ok (xptr g.xb) w' := fun w' hk' => look_spot_in (hv5.fr0 hk').spots HSW.out HG.out
        have k6 : ∀ w', KeptN w5 w' → w'.cell? ⟨g.xb, 0, none⟩ = some (.map (some g.hb)) := KeptN.cell (hx5.box.cell 0)
        have HV5 := Lib.hid hv5
        have HF5 := Lib.hid hf5
        clear hcl hs hv hk hg hf5 hb5 hv5 hx5
        go_wp2_with fail
        refine wp_region_sink 10 (KeptN w5) (by kernel_rfl) ?_
        have hSa : KeptN w5 w5.drew := KeptN.start w5
        refine tk 0 hSa ?_
        refine tk 1 hSa ?_
        refine tk 2 hSa ?_
        try simp only [Act.put, sA, sB, sC]
        refine tk 3 hSa ?_ (hy := by intro _ w; have ck1 := k1 _ w; go_simp <;> with_reducible rfl)
        try simp only [Act.put, sA, sB, sC]
        refine tk 4 hSa ?_ (hy := by intro _ w; have ck2 := k2 _ w; have ck3 := k3 _ w; have ck4 := k4 _ w; go_simp <;> with_reducible rfl)
        try simp only [Act.put, sA, sB, sC]
        refine tk 5 hSa ?_ (hy := by intro _ w; have ck5 := k5 _ w; go_simp <;> with_reducible rfl)
        try simp only [Act.put, sA, sB, sC]
        refine tk 6 hSa ?_
        refine tk 7 hSa ?_
        try simp only [Act.put, sA, sB, sC]
        refine tk 8 hSa ?_ (hy := by intro _ w; have ck6 := k6 _ w; go_simp <;> with_reducible rfl)
        try simp only [Act.put, sA, sB, sC]
        refine tk 9 hSa ?_
        try simp only [Act.put, sA, sB, sC]
        have hvd := HV5.out.fr0 hSa.fr
        obtain ⟨w6, hdel, hm6, hf6⟩ := del_held (hvd.at_ _ HG.out).holds HW.out 0
        refine wpAnyS_last (i := 10) rfl (by kernel_rfl) (by decide) (by kernel_rfl) (by rfl) fun K hK => ?_
        refine wp_del_run _ _ _ _ rfl _ _ rfl rfl hdel ?_
        refine hK.out _ _ ?_
        clear hK K
        have HI6 := Lib.hid (LkI.unhold hvd HK.out HS.out HG.out hm6 hf6)
        have hgS : S g.hb := hvd.inX _ HG.out _ (.inr (.inl rfl))
        have hf56 : Fr wo w6 S := ((HF5.out.trans0 hSa.fr).of_nil (S := S)).trans hf6 fun k _ e => by rw [e]; exact hgS
        have HF56 := Lib.hid hf56
        clear hSa hvd hdel hm6 hf6 hgS hf56 k1 k2 k3 k4 k5 k6
        go_wp2_with fail
        go_roundw
        case rel => exact ⟨i + 1, by go_num, by omega, HI6.out, HO.out.fr HF56.out (fun k hk hS => by have := HB2.out k hk; have := HLT.out k hS; omega), HF.out.trans HF56.out fun _ _ h => h⟩
        case measure => simp [intOf]; omega
      · obtain rfl : i = ks.length := by omega
        have hup := upTo_all HKS.out
        have hI := HI.out
        rw [hup] at hI
        have HI2 := Lib.hid hI
        have cS := sortsp_any (.slice a1 ks.length c1) ks wo HO.out HKL.out
        have HPK := Lib.hid (pack_leave HKS.out)
        have HSL2 := Lib.hid (sortS_len ks)
        clear hup hI
        go_wp2_with fail
        refine cS.mono ?_
        rintro e w5 ⟨rfl, ho5, hf5⟩
        have cC := comp_any ho5 (by rw [HSL2.out]; exact HKL.out)
        have ho5' := ho5
        have HF5 : Hid (Fr w w5 S) := HF.out.trans hf5 fun k hk h => by have := HB2.out k h; omega
        have HI5 : Hid (LkI w5 lb { D with H := D.H.filter fun e => e.who != who, W := dropA D.W who } S (fun s => s ∈ ks)) := by
          obtain ⟨sb, wb, G, hv, hk⟩ := HI2.out
          refine ⟨sb, wb, G, hv.fr hf5 fun k hS hk => ?_, hk⟩
          have := HB2.out k hk; have := HLT.out k hS; omega
        clear cS ho5 ho5' hf5
        go_wp2_with fail
        refine cC.mono ?_
        rintro e w6 ⟨v6, rfl, ho6, hb6, hf6⟩
        have hb6' : ∀ k, v6.ownBlock = some k → w.heap.size ≤ k := fun k hk => HB2.out k (hb6 k hk)
        have hlt6 : ∀ k, v6.ownBlock = some k → k < w6.heap.size := fun k hk => ho6.lt hk
        rw [HPK.out] at ho6
        have hf06 : Fr w w6 S := HF5.out.trans hf6 fun k hk h => by have h1 := HB2.out k h; omega
        obtain ⟨sb, wb, G, hv, _⟩ := HI5.out
        have hv6 := hv.fr hf6 fun k hS hk => by have h1 := HB2.out k hk; have := HLT.out k hS; omega
        have hpl : (leaveAll D who).length ≤ 1000000 := by
          have h1 := packS_len (sortS ks)
          rw [HPK.out, HSL2.out] at h1
          have := HKL.out; omega
        obtain ⟨a6, c6, rfl⟩ := ho6.shape
        have cW := woken_any (ss := leaveAll D who) (N := N) HN.out hv6 (HD.out.leave who) (SlAt.of_own ho6).1 (fun k hk => ⟨fun hS => by have := hb6' k hk; have := HLT.out k hS; omega, hlt6 k hk⟩) (leaveAll_wf HD.out who) hpl
        have HF06 := Lib.hid hf06
        clear cC ho6 hb6 hf6 hb6' hlt6 hf06 hv hv6 hpl
        go_wp2_with fail
        refine cW.mono ?_
        rintro e w7 ⟨ov, G7, rfl, o1, o2, o3, o4, o5⟩
        obtain ⟨oa, oc, rfl⟩ := o1.shape
        have O1 := Lib.hid o1
        have O2 := Lib.hid o2
        have O3 := Lib.hid o3
        have O4 := Lib.hid o4
        have O5 := Lib.hid o5
        clear o1 o2 o3 o4 o5 cW
        go_wp2_with fail
        go_ret
        show LeaveRet lb N (leaveL D who) S w _ _
        refine ⟨_, rfl, O1.out, fun k hk => ?_, ⟨sb, wb, G7, O3.out⟩, O4.out, HF06.out.trans O5.out fun _ _ h => h⟩
        have := O2.out k hk
        have := HF06.out.size
        omega
  · have HWI := Lib.hid hwi
    have HIN0 := Lib.hid (leaveI_some hwi hI)
    have HF0 := Lib.hid (H3.out.of_nil.trans hf fun _ _ h => h)
    have HO0 : Hid (OwnSp w2 (.slice a1 (spotsL D.H who).length c1) (spotsL D.H who)) := H1.out.fr hf fun k hk hS => by have := H2.out k hk; have := HLT.out k hS; omega
    have HKS := Lib.hid (leaveAll_some (D := D) (who := who) hwi)
    have HB0 : Hid (∀ k, (Value.slice a1 (spotsL D.H who).length c1).ownBlock = some k → w.heap.size ≤ k) := H2
    obtain ⟨s0, hs0⟩ : ∃ s, x.s = s := ⟨_, rfl⟩
    rw [hs0] at HKS ⊢
    generalize spotsL D.H who = ls at *
    obtain ⟨w4, hw4⟩ : ∃ w4, w2.alloc (.cells #[.int .i64 s0.1, .bool s0.2.1, .int .i64 s0.2.2] 30) = w4 := ⟨_, rfl⟩
    have hf4 : Fr w2 w4 Nil := by rw [← hw4]; exact (Fr.refl w2 Nil).alloc _
    have hb4 : Bk w4 w2.heap.size 30 [.int .i64 s0.1, .bool s0.2.1, .int .i64 s0.2.2] := by rw [← hw4]; exact Bk.new w2 _ _
    have r0 : w4.cell? ⟨w2.heap.size, 0, none⟩ = some (.int .i64 s0.1) := hb4.cell 0
    have r1 : w4.cell? ⟨w2.heap.size, 1, none⟩ = some (.bool s0.2.1) := hb4.cell 1
    have r2 : w4.cell? ⟨w2.heap.size, 2, none⟩ = some (.int .i64 s0.2.2) := hb4.cell 2
    have HOR : Hid ((w4.alloc (.cells #[.int .i64 s0.1, .bool s0.2.1, .int .i64 s0.2.2] 30)).ownsRow 0 30 3 (.slice a1 ls.length c1) ls.length (ls.flatMap sp3)) := World.ownsRow.alloc (HO0.out.fr hf4 fun _ _ h => h) _
    have HLB : Hid (ls.length + 1 ≤ 1000000) := HSL
    have HONE := Lib.hid (sp_new w4 s0)
    have HON1 := Lib.hid (sp3_one s0)
    have HF4 := Lib.hid hf4
    clear cL hwi hI hf H1 H2 H3 hf4 hb4
    go_wp2_with (at_builtin; refine wpList_app _ rfl _ _ 50 rfl spotT (.slice a1 ls.length c1) rfl HOR.out _ rfl HONE.out HON1.out HLB.out ?_)
    intro ga gc w3 ho3 hg3 hb3
    have hf43 : Fr w4 w3 (fun k => (Value.slice a1 ls.length c1).ownBlock = some k) := ((((Fr.refl w4 Nil).alloc (.cells #[.int .i64 s0.1, .bool s0.2.1, .int .i64 s0.2.2] 30)).of_nil).grown hg3 fun k hk _ => hk)
    have HB2 : Hid (∀ k, (Value.slice ga (ls ++ [s0]).length gc).ownBlock = some k → w.heap.size ≤ k) := fun k hk => by
      rw [List.length_append, List.length_singleton] at hk
      rcases hb3 with h | h
      · exact HB0.out k (h.symm.trans hk)
      · rw [h] at hk
        cases hk
        have h1 := HF4.out.size
        have h2 := HF0.out.size
        omega
    have HO : Hid (OwnSp w3 (.slice ga (ls ++ [s0]).length gc) (ls ++ [s0])) := by
      show World.ownsRow _ _ _ _ _ _ _
      rw [List.length_append, List.flatMap_append, List.length_singleton]
      simpa using ho3
    have HIN : Hid (LkI w3 lb { D with W := dropA D.W who } S (fun s => s ∈ leaveAll D who)) := by
      obtain ⟨sb, wb, G, hv, hk⟩ := HIN0.out
      refine ⟨sb, wb, G, (hv.fr0 HF4.out).fr hf43 fun k hS hk => ?_, hk⟩
      have := HB0.out k hk; have := HLT.out k hS; omega
    have HF : Hid (Fr w w3 S) := (HF0.out.trans HF4.out.of_nil fun _ _ h => h).trans hf43 fun k hk h => by have := HB0.out k h; omega
    have HKL : Hid ((ls ++ [s0]).length ≤ 1000000) := by rw [List.length_append, List.length_singleton]; exact HLB.out
    have hlk : ls.length + 1 = (ls ++ [s0]).length := by rw [List.length_append, List.length_singleton]
    rw [hlk]
    generalize ls ++ [s0] = ks at *
    clear ho3 hg3 hb3 hf43 HOR HONE HON1 HF4 HF0 HO0 HB0 HIN0 r0 r1 r2 hw4 hs0 hlk HLB
    go_wp2_with fail
    go_loopw [28] (fun vi wr => ∃ i : Nat, vi = .int .i64 (i : Int) ∧ i ≤ ks.length ∧ Hid (LkI wr lb (upTo D who ks i) S (fun s => s ∈ ks)) ∧ Hid (OwnSp wr (.slice ga ks.length gc) ks) ∧ Hid (Fr w wr S)) (fun vi _ => ks.length - (intOf vi).toNat)
    case atStart =>
      refine ⟨0, rfl, by omega, ?_, HO.out, HF.out⟩
      obtain ⟨sb, wb, G, hv, hk⟩ := HIN.out
      exact ⟨sb, wb, G, hv, fun s hs => hk s ((HKS.out s).1 hs)⟩
    case round =>
      clear HIN HO HF
      obtain ⟨i, rfl, hi, HI, HO, HF⟩ := hrel
      obtain ⟨wo, rfl⟩ : ∃ wo : World, wo = wr := ⟨_, rfl⟩
      have hkl9 : ks.length ≤ 1000000 := HKL.out
      by_cases hlt : i < ks.length
      · have hil : (i : Int) < (ks.length : Int) := by omega
        obtain ⟨b, cap', hvv, _, hcl⟩ := HO.out.form (by omega)
        simp only [Value.slice.injEq, true_and] at hvv
        obtain ⟨rfl, rfl⟩ := hvv
        obtain ⟨s, hs⟩ : ∃ s, ks[i]? = some s := ⟨_, List.getElem?_eq_getElem hlt⟩
        obtain ⟨p0, p1, p2⟩ := hcl i s hs
        have HS := Lib.hid hs
        have HSW : Hid (SWf s) := leaveAll_wf HD.out who s ((HKS.out s).1 (List.mem_iff_getElem?.2 ⟨i, hs⟩))
        obtain ⟨sb, wb, G, hv, hk⟩ := HI.out
        obtain ⟨g, hg⟩ := hk s (List.mem_iff_getElem?.2 ⟨i, hs⟩)
        have HK := Lib.hid hk
        have HG := Lib.hid hg
        obtain ⟨w5, hw5⟩ : ∃ w5, wo.alloc (.cells #[.int .i64 s.1, .bool s.2.1, .int .i64 s.2.2] 30) = w5 := ⟨_, rfl⟩
        have hf5 : Fr wo w5 Nil := by rw [← hw5]; exact (Fr.refl wo Nil).alloc _
        have hb5 : Bk w5 wo.heap.size 30 [.int .i64 s.1, .bool s.2.1, .int .i64 s.2.2] := by rw [← hw5]; exact Bk.new wo _ _
        have hv5 := hv.fr0 hf5
        have hx5 := hv5.at_ _ hg
        have k1 : ∀ w', KeptN w5 w' → w'.cell? ⟨lb, 1, none⟩ = some (.map (some sb)) := KeptN.cell (hv5.root.cell 1)
        have k2 : ∀ w', KeptN w5 w' → w'.cell? ⟨wo.heap.size, 0, none⟩ = some (.int .i64 s.1) := KeptN.cell (hb5.cell 0)
        have k3 : ∀ w', KeptN w5 w' → w'.cell? ⟨wo.heap.size, 1, none⟩ = some (.bool s.2.1) := KeptN.cell (hb5.cell 1)
        have k4 : ∀ w', KeptN w5 w' → w'.cell? ⟨wo.heap.size, 2, none⟩ = some (.int .i64 s.2.2) := KeptN.cell (hb5.cell 2)
        have k5 : ∀ w', KeptN w5 w' → (Instr.lookup 56 (.map (some sb)) (.agg #[.int .i64 s.1, .bool s.2.1, .int .i64 s.2.2]) false).run Tryz.prog w' = .ok (xptr g.xb) w' := fun w' hk' => look_spot_in (hv5.fr0 hk').spots HSW.out HG.out
        have k6 : ∀ w', KeptN w5 w' → w'.cell? ⟨g.xb, 0, none⟩ = some (.map (some g.hb)) := KeptN.cell (hx5.box.cell 0)
        have HV5 := Lib.hid hv5
        have HF5 := Lib.hid hf5
        clear hcl hs hv hk hg hf5 hb5 hv5 hx5
        go_wp2_with fail
        refine wp_region_sink 10 (KeptN w5) (by kernel_rfl) ?_
        have hSa : KeptN w5 w5.drew := KeptN.start w5
        refine tk 0 hSa ?_
        refine tk 1 hSa ?_
        refine tk 2 hSa ?_
        try simp only [Act.put, sA, sB, sC]
        refine tk 3 hSa ?_ (hy := by intro _ w; have ck1 := k1 _ w; go_simp <;> with_reducible rfl)
        try simp only [Act.put, sA, sB, sC]
        refine tk 4 hSa ?_ (hy := by intro _ w; have ck2 := k2 _ w; have ck3 := k3 _ w; have ck4 := k4 _ w; go_simp <;> with_reducible rfl)
        try simp only [Act.put, sA, sB, sC]
        refine tk 5 hSa ?_ (hy := by intro _ w; have ck5 := k5 _ w; go_simp <;> with_reducible rfl)
        try simp only [Act.put, sA, sB, sC]
        refine tk 6 hSa ?_
        refine tk 7 hSa ?_
        try simp only [Act.put, sA, sB, sC]
        refine tk 8 hSa ?_ (hy := by intro _ w; have ck6 := k6 _ w; go_simp <;> with_reducible rfl)
        try simp only [Act.put, sA, sB, sC]
        refine tk 9 hSa ?_
        try simp only [Act.put, sA, sB, sC]
        have hvd := HV5.out.fr0 hSa.fr
        obtain ⟨w6, hdel, hm6, hf6⟩ := del_held (hvd.at_ _ HG.out).holds HW.out 0
        refine wpAnyS_last (i := 10) rfl (by kernel_rfl) (by decide) (by kernel_rfl) (by rfl) fun K hK => ?_
        refine wp_del_run _ _ _ _ rfl _ _ rfl rfl hdel ?_
        refine hK.out _ _ ?_
        clear hK K
        have HI6 := Lib.hid (LkI.unhold hvd HK.out HS.out HG.out hm6 hf6)
        have hgS : S g.hb := hvd.inX _ HG.out _ (.inr (.inl rfl))
        have hf56 : Fr wo w6 S := ((HF5.out.trans0 hSa.fr).of_nil (S := S)).trans hf6 fun k _ e => by rw [e]; exact hgS
        have HF56 := Lib.hid hf56
        clear hSa hvd hdel hm6 hf6 hgS hf56 k1 k2 k3 k4 k5 k6
        go_wp2_with fail
        go_roundw
        case rel => exact ⟨i + 1, by go_num, by omega, HI6.out, HO.out.fr HF56.out (fun k hk hS => by have := HB2.out k hk; have := HLT.out k hS; omega), HF.out.trans HF56.out fun _ _ h => h⟩
        case measure => simp [intOf]; omega
      · obtain rfl : i = ks.length := by omega
        have hup := upTo_all HKS.out
        have hI := HI.out
        rw [hup] at hI
        have HI2 := Lib.hid hI
        have cS := sortsp_any (.slice ga ks.length gc) ks wo HO.out HKL.out
        have HPK := Lib.hid (pack_leave HKS.out)
        have HSL2 := Lib.hid (sortS_len ks)
        clear hup hI
        go_wp2_with fail
        refine cS.mono ?_
        rintro e w5 ⟨rfl, ho5, hf5⟩
        have cC := comp_any ho5 (by rw [HSL2.out]; exact HKL.out)
        have ho5' := ho5
        have HF5 : Hid (Fr w w5 S) := HF.out.trans hf5 fun k hk h => by have := HB2.out k h; omega
        have HI5 : Hid (LkI w5 lb { D with H := D.H.filter fun e => e.who != who, W := dropA D.W who } S (fun s => s ∈ ks)) := by
          obtain ⟨sb, wb, G, hv, hk⟩ := HI2.out
          refine ⟨sb, wb, G, hv.fr hf5 fun k hS hk => ?_, hk⟩
          have := HB2.out k hk; have := HLT.out k hS; omega
        clear cS ho5 ho5' hf5
        go_wp2_with fail
        refine cC.mono ?_
        rintro e w6 ⟨v6, rfl, ho6, hb6, hf6⟩
        have hb6' : ∀ k, v6.ownBlock = some k → w.heap.size ≤ k := fun k hk => HB2.out k (hb6 k hk)
        have hlt6 : ∀ k, v6.ownBlock = some k → k < w6.heap.size := fun k hk => ho6.lt hk
        rw [HPK.out] at ho6
        have hf06 : Fr w w6 S := HF5.out.trans hf6 fun k hk h => by have h1 := HB2.out k h; omega
        obtain ⟨sb, wb, G, hv, _⟩ := HI5.out
        have hv6 := hv.fr hf6 fun k hS hk => by have h1 := HB2.out k hk; have := HLT.out k hS; omega
        have hpl : (leaveAll D who).length ≤ 1000000 := by
          have h1 := packS_len (sortS ks)
          rw [HPK.out, HSL2.out] at h1
          have := HKL.out; omega
        obtain ⟨a6, c6, rfl⟩ := ho6.shape
        have cW := woken_any (ss := leaveAll D who) (N := N) HN.out hv6 (HD.out.leave who) (SlAt.of_own ho6).1 (fun k hk => ⟨fun hS => by have := hb6' k hk; have := HLT.out k hS; omega, hlt6 k hk⟩) (leaveAll_wf HD.out who) hpl
        have HF06 := Lib.hid hf06
        clear cC ho6 hb6 hf6 hb6' hlt6 hf06 hv hv6 hpl
        go_wp2_with fail
        refine cW.mono ?_
        rintro e w7 ⟨ov, G7, rfl, o1, o2, o3, o4, o5⟩
        obtain ⟨oa, oc, rfl⟩ := o1.shape
        have O1 := Lib.hid o1
        have O2 := Lib.hid o2
        have O3 := Lib.hid o3
        have O4 := Lib.hid o4
        have O5 := Lib.hid o5
        clear o1 o2 o3 o4 o5 cW
        go_wp2_with fail
        go_ret
        show LeaveRet lb N (leaveL D who) S w _ _
        refine ⟨_, rfl, O1.out, fun k hk => ?_, ⟨sb, wb, G7, O3.out⟩, O4.out, HF06.out.trans O5.out fun _ _ h => h⟩
        have := O2.out k hk
        have := HF06.out.size
        omega
end Go.Proofs.YtokeciekncincabGreat
