/-
  Walk of the document's can.
  No condition but sizes.
  Walk of the document's holds: a hold is put.
  No condition but sizes.
  Walk of the document's Used and New.
  No condition but sizes.
  Walk of the document's regrant.
  No condition but sizes.
  Walk of the document's Free and Cancel.
  No condition but sizes.
-/
import Derived.Test.YtokeciekncincabGreatPkC33
import Derived.Test.YtokeciekncincabGreatPkC34
import Derived.Test.YtokeciekncincabGreatPkC6
import Derived.Test.YtokeciekncincabGreatPkC17
namespace Go.Proofs.YtokeciekncincabGreat
open Go Go.RowKit Go.Maps

theorem can_stop {H : List LkE} {who : Int} {s : Spot} {m : Int} {e : LkE} (he : e ∈ H) (hb : (e.s == s && e.who != who && !besM m e.m) = true) : canL H who s m = false := by
  unfold canL
  rw [List.all_eq_false]
  exact ⟨e, he, by rw [hb]; decide⟩
theorem can_all {H : List LkE} {who : Int} {s : Spot} {m : Int} (h : ∀ e ∈ H, (e.s == s && e.who != who && !besM m e.m) = false) : canL H who s m = true := by
  unfold canL
  rw [List.all_eq_true]
  intro e he
  rw [h e he]; rfl
set_option maxRecDepth 100000 in
set_option maxHeartbeats 2000000 in
theorem rcan_any {mb : Nat} {D : LkS} {S : Nat → Prop} (who : Int) (s : Spot) {m : Int} (hm : ModeOk m) (w : World) (h : DkA w mb D S) (hl : D.H.length ≤ 1000000) (hH : ∀ e ∈ D.H, ModeOk e.m) :
    Calls Tryz.prog 67 #[mkp mb, .int .i64 who, spV s, .int .u8 m] w fun e w' => e = .returned (.bool (canL D.H who s m)) ∧ Fr w w' Nil := by
  obtain ⟨hv, wv, hg⟩ := h
  obtain ⟨R, hR⟩ : ∃ R, canL D.H who s m = R := ⟨_, rfl⟩
  rw [hR]
  have HR := Lib.hid hR
  obtain ⟨w0, hw0⟩ : ∃ w0, w.alloc (.cells #[.int .i64 s.1, .bool s.2.1, .int .i64 s.2.2] 30) = w0 := ⟨_, rfl⟩
  have hf0 : Fr w w0 Nil := by rw [← hw0]; exact (Fr.refl w Nil).alloc _
  have hb0 : Bk w0 w.heap.size 30 [.int .i64 s.1, .bool s.2.1, .int .i64 s.2.2] := by rw [← hw0]; exact Bk.new w _ _
  have hg0 := hg.fr0 hf0
  obtain ⟨ha, hc, rfl⟩ := hg0.holds.shape
  have HF0 := Lib.hid hf0
  have HB0 := Lib.hid hb0
  have HO := Lib.hid hg0.holds
  have HRT := Lib.hid hg0.root
  have HM := Lib.hid hm
  have HHM := Lib.hid hH
  generalize D.H = H at *
  clear hg hg0 hf0 hb0 hR hm hH
  go_enter Tryz.func67, Tryz.ntmps67
  go_wp2_with fail
  go_loopw [9] (fun vi wr => ∃ i : Nat, vi = .int .i64 (i : Int) ∧ i ≤ H.length ∧ Hid (∀ x ∈ H.take i, (x.s == s && x.who != who && !besM m x.m) = false) ∧ Hid (Fr w0 wr Nil)) (fun vi _ => H.length - (intOf vi).toNat)
  case atStart => exact ⟨0, by go_num, by omega, (fun x hx => by simp at hx), Fr.refl _ _⟩
  case round =>
    obtain ⟨i, rfl, hi, HN, HF⟩ := hrel
    obtain ⟨wo, rfl⟩ : ∃ wo : World, wo = wr := ⟨_, rfl⟩
    have m1 : wo.cell? ⟨mb, 1, none⟩ = some (.slice ha H.length hc) := (HRT.out.fr HF.out fun h => h).cell 1
    by_cases hlt : i < H.length
    · have hil : (i : Int) < (H.length : Int) := by omega
      obtain ⟨b, cap', hvv, _, hcl⟩ := HO.out.form (by omega)
      simp only [Value.slice.injEq, true_and] at hvv
      obtain ⟨rfl, rfl⟩ := hvv
      obtain ⟨e, he⟩ : ∃ e, H[i]? = some e := ⟨_, List.getElem?_eq_getElem hlt⟩
      obtain ⟨p0, p1, p2, p3, p4⟩ := hcl i e he
      replace p0 := HF.out.cell p0 (fun h => h)
      replace p1 := HF.out.cell p1 (fun h => h)
      replace p2 := HF.out.cell p2 (fun h => h)
      replace p3 := HF.out.cell p3 (fun h => h)
      replace p4 := HF.out.cell p4 (fun h => h)
      have hbo := HB0.out.fr HF.out (fun h => h)
      have r0 : wo.cell? ⟨w.heap.size, 0, none⟩ = some (.int .i64 s.1) := hbo.cell 0
      have r1 : wo.cell? ⟨w.heap.size, 1, none⟩ = some (.bool s.2.1) := hbo.cell 1
      have r2 : wo.cell? ⟨w.heap.size, 2, none⟩ = some (.int .i64 s.2.2) := hbo.cell 2
      have HTK : Hid (H.take (i + 1) = H.take i ++ [e]) := by
        show _ = _
        rw [List.take_add_one, he]; rfl
      have HE := Lib.hid (List.mem_iff_getElem?.2 ⟨i, he⟩)
      have HEM := Lib.hid (HHM.out e HE.out)
      have cB := rbes_any HM.out HEM.out
      have heq := Tryz.eqSp e.s s
      have HP : Hid ((e.s == s && e.who != who && !besM m e.m) = (decide (e.s = s) && (!(e.who == who) && !besM m e.m))) := by
        show _ = _
        rw [Bool.and_assoc, beq_spot]; rfl
      obtain ⟨w1, hw1⟩ : ∃ w1, wo.alloc (.cells #[.int .i64 e.s.1, .bool e.s.2.1, .int .i64 e.s.2.2, .int .i64 e.who, .int .u8 e.m] 96) = w1 := ⟨_, rfl⟩
      have hf1 : Fr wo w1 Nil := by rw [← hw1]; exact (Fr.refl wo Nil).alloc _
      have hb1 : Bk w1 wo.heap.size 96 [.int .i64 e.s.1, .bool e.s.2.1, .int .i64 e.s.2.2, .int .i64 e.who, .int .u8 e.m] := by rw [← hw1]; exact Bk.new wo _ _
      have q0 := hb1.cell 0
      have q1 := hb1.cell 1
      have q2 := hb1.cell 2
      have q3 := hb1.cell 3
      have q4 := hb1.cell 4
      have t0 := hf1.cell r0 (fun h => h)
      have t1 := hf1.cell r1 (fun h => h)
      have t2 := hf1.cell r2 (fun h => h)
      have HF1 := Lib.hid (HF.out.trans0 hf1)
      rw [← hw1] at q0 q1 q2 q3 q4 t0 t1 t2
      generalize hd : decide (e.s = s) = dd at *
      generalize hbes : besM m e.m = be at *
      have HBES := Lib.hid hbes
      clear hcl he hbo hd hbes hf1 hb1
      obtain ⟨⟨e1, e2, e3⟩, ew, em⟩ := e
      obtain ⟨s1, s2, s3⟩ := s
      dsimp only at p0 p1 p2 p3 p4 r0 r1 r2 q0 q1 q2 q3 q4 t0 t1 t2 hw1
      have HREL : Hid ((dd && (!(ew == who) && !be)) = false → ∀ x ∈ H.take (i + 1), (x.s == (s1, s2, s3) && x.who != who && !besM m x.m) = false) := fun h0 x hx => by
        rw [HTK.out] at hx
        rcases List.mem_append.1 hx with hx | hx
        · exact HN.out x hx
        · rw [List.mem_singleton] at hx; subst hx; exact (congrArg (fun z => _ && !z) HBES.out).trans (HP.out.trans h0)
      have HW1 := Lib.hid hw1
      clear hw1
      cases dd with
      | false =>
        go_wp2_with fail
        try rw [HW1.out]
        go_roundw
        case rel => exact ⟨i + 1, by go_num, by omega, HREL.out rfl, HF1.out⟩
        case measure => simp [intOf]; omega
      | true =>
        have hne : (ew != who) = !(ew == who) := rfl
        cases hw : (ew == who) with
        | true =>
          rw [hw] at hne
          go_wp2_with fail
          try rw [HW1.out]
          go_roundw
          case rel => exact ⟨i + 1, by go_num, by omega, HREL.out (by rw [hw]; rfl), HF1.out⟩
          case measure => simp [intOf]; omega
        | false =>
          rw [hw] at hne
          go_wp2_with fail
          try rw [HW1.out]
          refine (cB _).mono ?_
          rintro e w2 ⟨rfl, hf2⟩
          have HF2 := Lib.hid (HF1.out.trans0 hf2)
          clear hf2
          cases be with
          | true =>
            go_wp2_with fail
            go_roundw
            case rel => exact ⟨i + 1, by go_num, by omega, HREL.out (by rw [hw]; rfl), HF2.out⟩
            case measure => simp [intOf]; omega
          | false =>
            go_wp2_with fail
            go_ret
            refine ⟨?_, HF0.out.trans0 HF2.out⟩
            rw [← HR.out, can_stop HE.out ((congrArg (fun z => _ && !z) HBES.out).trans (HP.out.trans (by rw [hw]; try rfl)))]
            rfl
    · obtain rfl : i = H.length := by omega
      have HN2 := HN.out
      rw [List.take_length] at HN2
      go_wp2_with fail
      go_ret
      refine ⟨?_, HF0.out.trans0 HF.out⟩
      rw [← HR.out, can_all HN2]
      rfl
end Go.Proofs.YtokeciekncincabGreat
namespace Go.Proofs.YtokeciekncincabGreat
open Go Go.RowKit Go.Maps

/-- What a call that changes the table leaves behind. -/
def DkN (w : World) (S : Nat → Prop) (mb : Nat) (D' : LkS) (w' : World) : Prop := ∃ S', DkA w' mb D' S' ∧ Fr w w' S ∧ ∀ k, S' k → S k ∨ w.heap.size ≤ k
theorem DkN.same {w w' : World} {S : Nat → Prop} {mb : Nat} {D : LkS} (h : DkA w mb D S) (hf : Fr w w' Nil) : DkN w S mb D w' := ⟨S, h.fr0 hf, hf.of_nil, fun _ h => .inl h⟩
theorem DkN.ahead {w w1 w' : World} {S : Nat → Prop} {mb : Nat} {D : LkS} (hf : Fr w w1 Nil) (h : DkN w1 S mb D w') : DkN w S mb D w' := by
  obtain ⟨S', h1, h2, h3⟩ := h
  have := hf.size
  exact ⟨S', h1, hf.of_nil.trans h2 fun _ _ h => h, fun k hk => (h3 k hk).imp id fun h => by omega⟩
theorem DkN.then {w w1 w2 : World} {S : Nat → Prop} {mb : Nat} {D : LkS} {S1 : Nat → Prop} (hf : Fr w w1 S) (hs : ∀ k, S1 k → S k ∨ w.heap.size ≤ k) (h : DkN w1 S1 mb D w2) : DkN w S mb D w2 := by
  obtain ⟨S', h1, h2, h3⟩ := h
  have := hf.size
  exact ⟨S', h1, hf.trans h2 fun k hk h => (hs k h).elim id fun h => by omega, fun k hk => (h3 k hk).elim (hs k) fun h => .inr (by omega)⟩
theorem DkN.step {w w1 w2 : World} {S : Nat → Prop} {mb : Nat} {D D1 : LkS} (h : DkN w S mb D1 w1) (h2 : ∀ S1, DkA w1 mb D1 S1 → DkN w1 S1 mb D w2) : DkN w S mb D w2 := by
  obtain ⟨S1, a1, a2, a3⟩ := h
  exact DkN.then a2 a3 (h2 S1 a1)
theorem DkN.behind {w w1 w2 : World} {S : Nat → Prop} {mb : Nat} {D : LkS} (h : DkN w S mb D w1) (hf : Fr w1 w2 Nil) : DkN w S mb D w2 := h.step fun _ ha => DkN.same ha hf
set_option maxRecDepth 100000 in
set_option maxHeartbeats 4000000 in
theorem rholds_any {mb : Nat} {D : LkS} {S : Nat → Prop} (who : Int) (s : Spot) (m : Int) (w : World) (h : DkA w mb D S) (hl : D.H.length + 1 ≤ 1000000) :
    Calls Tryz.prog 68 #[mkp mb, .int .i64 who, spV s, .int .u8 m] w fun e w' => e = .returned (.tuple #[]) ∧ DkN w S mb { D with H := putH D.H who s m } w' := by
  obtain ⟨hv, wv, hg⟩ := h
  obtain ⟨w0, hw0⟩ : ∃ w0, w.alloc (.cells #[.int .i64 s.1, .bool s.2.1, .int .i64 s.2.2] 30) = w0 := ⟨_, rfl⟩
  have hf0 : Fr w w0 Nil := by rw [← hw0]; exact (Fr.refl w Nil).alloc _
  have hb0 : Bk w0 w.heap.size 30 [.int .i64 s.1, .bool s.2.1, .int .i64 s.2.2] := by rw [← hw0]; exact Bk.new w _ _
  have hg0 := hg.fr0 hf0
  have HG := Lib.hid hg
  have HF0 := Lib.hid hf0
  have cD := fun (w' : World) (hf : Fr w0 w' Nil) => rdrop_any who s false w' (hg0.holds.fr hf fun _ _ h => h) (by omega)
  rw [dropB_one] at cD
  have HLB : Hid ((dropS D.H who s).length + 1 ≤ 1000000) := by
    have h1 : (dropS D.H who s).length ≤ D.H.length := List.length_filter_le _ _
    have h2 : (dropS D.H who s).length + 1 ≤ 1000000 := by omega
    exact h2
  have HPT : Hid (putH D.H who s m = dropS D.H who s ++ [⟨s, who, m⟩]) := Lib.hid rfl
  have HRT := Lib.hid hg0.root
  have k1 : ∀ w', KeptN w0 w' → w'.cell? ⟨mb, 1, none⟩ = some hv := KeptN.cell (hg0.root.cell 1)
  have k2 : ∀ w', KeptN w0 w' → w'.cell? ⟨w.heap.size, 0, none⟩ = some (.int .i64 s.1) := KeptN.cell (hb0.cell 0)
  have k3 : ∀ w', KeptN w0 w' → w'.cell? ⟨w.heap.size, 1, none⟩ = some (.bool s.2.1) := KeptN.cell (hb0.cell 1)
  have k4 : ∀ w', KeptN w0 w' → w'.cell? ⟨w.heap.size, 2, none⟩ = some (.int .i64 s.2.2) := KeptN.cell (hb0.cell 2)
  have HONE : Hid (∀ W : World, SlAt (W.alloc (.cells #[.int .i64 s.1, .bool s.2.1, .int .i64 s.2.2, .int .i64 who, .int .u8 m] 96)) 5 (.slice (some ⟨W.heap.size, 0, none⟩) 1 1) 1 (ent5 ⟨s, who, m⟩)) := fun W => ent_new W ⟨s, who, m⟩
  have HON1 := Lib.hid (ent_one ⟨s, who, m⟩)
  generalize dropS D.H who s = H1 at *
  generalize putH D.H who s m = H2 at *
  clear hg hg0 hf0 hb0 hl
  go_enter Tryz.func68, Tryz.ntmps68
  go_wp2_with fail
  refine wp_region_sink 16 (KeptN w0) (by kernel_rfl) ?_
  have hSa : KeptN w0 w0.drew := KeptN.start w0
  refine tk 0 hSa ?_
  refine tk 1 hSa ?_
  refine tk 2 hSa ?_
  refine tk 3 hSa ?_
  try simp only [Act.put, sA, sB, sC]
  refine tk 4 hSa ?_ (hy := by intro _ w; have ck1 := k1 _ w; go_simp <;> with_reducible rfl)
  try simp only [Act.put, sA, sB, sC]
  refine tk 5 hSa ?_
  try simp only [Act.put, sA, sB, sC]
  refine tk 6 hSa ?_ (hy := by intro _ w; have ck2 := k2 _ w; have ck3 := k3 _ w; have ck4 := k4 _ w; go_simp <;> with_reducible rfl)
  try simp only [Act.put, sA, sB, sC]
  refine tk 8 hSa ?_ (hy := by intro _ w; have ck2 := k2 _ w; have ck3 := k3 _ w; have ck4 := k4 _ w; go_simp <;> with_reducible rfl)
  try simp only [Act.put, sA, sB, sC]
  refine tk 9 hSa ?_
  refine tk 10 hSa ?_
  refine tk 11 hSa ?_
  try simp only [Act.put, sA, sB, sC]
  refine wpAnyS_two (i := 7) (j := 12) rfl rfl (by kernel_rfl) (by decide) (by decide) (by rfl) (by rfl) (fun K hK => ?_) (fun K hK => ?_)
  · go_simp
    refine (cD _ hSa).mono ?_
    rintro e w1 ⟨v', rfl, hn, hf⟩
    obtain ⟨a, c, rfl⟩ := hn.1.shape
    have hS1 : KeptN w0 w1 := KeptN.next hSa hf
    refine hK.out _ _ hS1 ?_
    clear hK K
    try simp only [Act.put, sA, sB, sC]
    refine on1 12 fun K hK => ?_
    go_simp
    obtain ⟨w2, hw2⟩ : ∃ x, (w1.alloc (.cells #[.int .i64 s.1, .bool s.2.1, .int .i64 s.2.2, .int .i64 who, .int .u8 m] 96)) = x := ⟨_, rfl⟩
    try rw [hw2]
    have hf2 : Fr w1 w2 Nil := by rw [← hw2]; exact ((Fr.refl w1 Nil).alloc _)
    have hs2 : SlAt w2 5 (.slice (some ⟨w1.heap.size, 0, none⟩) 1 1) 1 (ent5 ⟨s, who, m⟩) := by rw [← hw2]; exact HONE.out w1
    have hS2 : KeptN w0 w2 := KeptN.next hS1 hf2
    refine hK.out _ _ hS2 ?_
    clear hK K
    try simp only [Act.put, sA, sB, sC]
    have hown : w2.ownsRow 0 96 5 (.slice a H1.length c) H1.length (H1.flatMap ent5) := by have h1 := (hn.1.fr hf2 fun _ _ h => h); exact h1
    refine on1 13 fun K hK => ?_
    refine wp_app _ _ _ 60 rfl entT (.slice a H1.length c) rfl hown (.slice (some ⟨w1.heap.size, 0, none⟩) 1 1) rfl hs2 HON1.out HLB.out ?_
    intro ga gc W4 ho4 hg4 hb4
    have hnb : ∀ k, (Value.slice a H1.length c).ownBlock = some k → w0.heap.size ≤ k := fun k hk => Nat.le_trans (Fr.size hSa) (hn.2 k hk)
    have hSc : KeptN w0 W4 := Fr.grown hS2 hg4 fun k hk hlt => by have := hnb k hk; omega
    have hv4 : OwnE W4 (.slice ga (H1.length + 1) gc) H2 := by
      rw [HPT.out]
      exact OwnE.snoc rfl ho4
    have hfresh : ∀ k, (Value.slice ga (H1.length + 1) gc).ownBlock = some k → w0.heap.size ≤ k := fun k hk => by
      rcases hb4 with h | h
      · exact hnb k (h.symm.trans hk)
      · rw [h] at hk
        cases hk
        exact Fr.size hS2
    refine hK.out _ _ hSc ?_
    clear hK K
    try simp only [Act.put, sA, sB, sC]
    refine tk 14 hSc ?_
    refine tk 15 hSc ?_
    try simp only [Act.put, sA, sB, sC]
    have hrt := HRT.out.fr hSc fun h => h
    have c1 := hrt.cell 1
    have f1 := hrt.free 1
    refine wpAnyS_last (i := 16) rfl (by kernel_rfl) (by decide) (by kernel_rfl) (by rfl) fun K hK => ?_
    go_simp
    refine hK.out _ _ ?_
    clear hK K
    have hend := HG.out.setH (HF0.out.trans0 hSc) hv4 fun k hk => Nat.le_trans HF0.out.size (hfresh k hk)
    have HEND : Hid (DkN w S mb { D with H := H2 } (W4.setCell ⟨mb, 1, none⟩ (.slice ga (H1.length + 1) gc))) := ⟨_, ⟨_, _, hend.1⟩, hend.2.mono fun k _ h => by have h : k = mb := h; rw [h]; exact HG.out.inB, fun k hk => hk.imp id fun h => Nat.le_trans HF0.out.size (hfresh k h)⟩
    clear hend hrt c1 f1 hSc hv4 hfresh hown ho4 hg4 hb4 hnb
    go_wp2_with fail
    refine bodyPost_end (results_none rfl _ _ _) rfl ?_
    exact ⟨rfl, HEND.out⟩
  · go_simp
    obtain ⟨w1, hw1⟩ : ∃ x, (w0.alloc (.cells #[.int .i64 s.1, .bool s.2.1, .int .i64 s.2.2, .int .i64 who, .int .u8 m] 96)).drew = x := ⟨_, rfl⟩
    try rw [hw1]
    have hf1 : Fr w0 w1 Nil := by rw [← hw1]; exact ((Fr.refl w0 Nil).alloc _).drew
    have hs1 : SlAt w1 5 (.slice (some ⟨w0.heap.size, 0, none⟩) 1 1) 1 (ent5 ⟨s, who, m⟩) := by rw [← hw1]; exact HONE.out w0
    have hS1 : KeptN w0 w1 := KeptN.next (show KeptN w0 w0 from Fr.refl w0 Nil) hf1
    refine hK.out _ _ hS1 ?_
    clear hK K
    try simp only [Act.put, sA, sB, sC]
    refine on1 7 fun K hK => ?_
    go_simp
    refine (cD _ hS1).mono ?_
    rintro e w2 ⟨v', rfl, hn, hf⟩
    obtain ⟨a, c, rfl⟩ := hn.1.shape
    have hS2 : KeptN w0 w2 := KeptN.next hS1 hf
    refine hK.out _ _ hS2 ?_
    clear hK K
    try simp only [Act.put, sA, sB, sC]
    have hown : w2.ownsRow 0 96 5 (.slice a H1.length c) H1.length (H1.flatMap ent5) := hn.1
    refine on1 13 fun K hK => ?_
    refine wp_app _ _ _ 60 rfl entT (.slice a H1.length c) rfl hown (.slice (some ⟨w0.heap.size, 0, none⟩) 1 1) rfl (hs1.fr0 hf) HON1.out HLB.out ?_
    intro ga gc W4 ho4 hg4 hb4
    have hnb : ∀ k, (Value.slice a H1.length c).ownBlock = some k → w0.heap.size ≤ k := fun k hk => Nat.le_trans (Fr.size hS1) (hn.2 k hk)
    have hSc : KeptN w0 W4 := Fr.grown hS2 hg4 fun k hk hlt => by have := hnb k hk; omega
    have hv4 : OwnE W4 (.slice ga (H1.length + 1) gc) H2 := by
      rw [HPT.out]
      exact OwnE.snoc rfl ho4
    have hfresh : ∀ k, (Value.slice ga (H1.length + 1) gc).ownBlock = some k → w0.heap.size ≤ k := fun k hk => by
      rcases hb4 with h | h
      · exact hnb k (h.symm.trans hk)
      · rw [h] at hk
        cases hk
        exact Fr.size hS2
    refine hK.out _ _ hSc ?_
    clear hK K
    try simp only [Act.put, sA, sB, sC]
    refine tk 14 hSc ?_
    refine tk 15 hSc ?_
    try simp only [Act.put, sA, sB, sC]
    have hrt := HRT.out.fr hSc fun h => h
    have c1 := hrt.cell 1
    have f1 := hrt.free 1
    refine wpAnyS_last (i := 16) rfl (by kernel_rfl) (by decide) (by kernel_rfl) (by rfl) fun K hK => ?_
    go_simp
    refine hK.out _ _ ?_
    clear hK K
    have hend := HG.out.setH (HF0.out.trans0 hSc) hv4 fun k hk => Nat.le_trans HF0.out.size (hfresh k hk)
    have HEND : Hid (DkN w S mb { D with H := H2 } (W4.setCell ⟨mb, 1, none⟩ (.slice ga (H1.length + 1) gc))) := ⟨_, ⟨_, _, hend.1⟩, hend.2.mono fun k _ h => by have h : k = mb := h; rw [h]; exact HG.out.inB, fun k hk => hk.imp id fun h => Nat.le_trans HF0.out.size (hfresh k h)⟩
    clear hend hrt c1 f1 hSc hv4 hfresh hown ho4 hg4 hb4 hnb
    go_wp2_with fail
    refine bodyPost_end (results_none rfl _ _ _) rfl ?_
    exact ⟨rfl, HEND.out⟩
end Go.Proofs.YtokeciekncincabGreat
namespace Go.Proofs.YtokeciekncincabGreat
open Go Go.RowKit Go.Maps

theorem rused_len {H W : List LkE} {p : LkE → Bool} {i : Nat} (h : H.length ≤ 1000000) (hw : W.length ≤ 1000000) : H.length + ((W.take i).filter p).length ≤ 2000000 := by
  have h1 := List.length_filter_le p (W.take i)
  rw [List.length_take] at h1
  omega
set_option maxRecDepth 100000 in
set_option maxHeartbeats 4000000 in
theorem rused_any {mb : Nat} {D : LkS} {S : Nat → Prop} (w : World) (h : DkA w mb D S) (hl : D.H.length ≤ 1000000) (hlw : D.W.length ≤ 1000000) :
    Calls Tryz.prog 33 #[mkp mb] w fun e w' => e = .returned (.int .i64 (usedL D : Int)) ∧ Fr w w' Nil := by
  have HA := Lib.hid h
  obtain ⟨hv, wv, hg⟩ := h
  obtain ⟨ha, hc, rfl⟩ := hg.holds.shape
  obtain ⟨wa, wc, rfl⟩ := hg.wishes.shape
  have HO := Lib.hid hg.wishes
  have HRT := Lib.hid hg.root
  have cH := fun (e : LkE) (w' : World) (hf : Fr w w' Nil) => rheld_any e.who e.s w' (HA.out.fr0 hf) hl
  have HR : Hid (usedL D = D.H.length + (D.W.filter fun e => heldL D.H e.who e.s == 0).length) := Lib.hid rfl
  generalize usedL D = R at *
  generalize D.H = H at *
  generalize D.W = W at *
  clear hg
  have m1 : w.cell? ⟨mb, 1, none⟩ = some (.slice ha H.length hc) := HRT.out.cell 1
  go_enter Tryz.func33, Tryz.ntmps33
  go_wp2_with fail
  clear m1
  go_loopw [3, 4] (fun vn vi wr => ∃ i n : Nat, vi = .int .i64 (i : Int) ∧ vn = .int .i64 (n : Int) ∧ i ≤ W.length ∧ Hid (H.length + ((W.take i).filter fun e => heldL H e.who e.s == 0).length = n) ∧ Hid (Fr w wr Nil)) (fun _ vi _ => W.length - (intOf vi).toNat)
  case atStart => exact ⟨0, H.length, by go_num, by go_num, by omega, rfl, Fr.refl _ _⟩
  case round =>
    obtain ⟨i, n, rfl, rfl, hi, HN, HF⟩ := hrel
    obtain ⟨wo, rfl⟩ : ∃ wo : World, wo = wr := ⟨_, rfl⟩
    have hrt := HRT.out.fr HF.out fun h => h
    have m2 : wo.cell? ⟨mb, 2, none⟩ = some (.slice wa W.length wc) := hrt.cell 2
    have hnl : n ≤ 2000000 := by have h1 := HN.out; have h2 := rused_len (i := i) (p := fun e => heldL H e.who e.s == 0) hl hlw; omega
    by_cases hlt : i < W.length
    · have hil : (i : Int) < (W.length : Int) := by omega
      obtain ⟨b, cap', hvv, _, hcl⟩ := HO.out.form (by omega)
      simp only [Value.slice.injEq, true_and] at hvv
      obtain ⟨rfl, rfl⟩ := hvv
      obtain ⟨e, he⟩ : ∃ e, W[i]? = some e := ⟨_, List.getElem?_eq_getElem hlt⟩
      obtain ⟨p0, p1, p2, p3, p4⟩ := hcl i e he
      have k1 : ∀ w', KeptN wo w' → w'.cell? ⟨mb, 2, none⟩ = some (.slice (some ⟨b, 0, none⟩) W.length wc) := KeptN.cell m2
      have k2 : ∀ w', KeptN wo w' → w'.cell? ⟨b, i * 5, none⟩ = some (.int .i64 e.s.1) := KeptN.cell (HF.out.cell p0 (fun h => h))
      have k3 : ∀ w', KeptN wo w' → w'.cell? ⟨b, i * 5 + 1, none⟩ = some (.bool e.s.2.1) := KeptN.cell (HF.out.cell p1 (fun h => h))
      have k4 : ∀ w', KeptN wo w' → w'.cell? ⟨b, i * 5 + 2, none⟩ = some (.int .i64 e.s.2.2) := KeptN.cell (HF.out.cell p2 (fun h => h))
      have k5 : ∀ w', KeptN wo w' → w'.cell? ⟨b, i * 5 + 3, none⟩ = some (.int .i64 e.who) := KeptN.cell (HF.out.cell p3 (fun h => h))
      have HTK : Hid ((W.take (i + 1)).filter (fun e => heldL H e.who e.s == 0) = (W.take i).filter (fun e => heldL H e.who e.s == 0) ++ if (heldL H e.who e.s == 0) then [e] else []) := take_filter he
      have cE := cH e
      clear hcl he p0 p1 p2 p3 p4 hrt
      obtain ⟨⟨e1, e2, e3⟩, ew, em⟩ := e
      dsimp only at k2 k3 k4 k5 cE
      dsimp only at HTK
      go_wp2_with fail
      refine wp_region_sink 19 (KeptN wo) (by kernel_rfl) ?_
      have hSa : KeptN wo wo.drew := KeptN.start wo
      refine tkA 0 hSa ?_
      refine tkA 1 hSa ?_
      refine tkA 2 hSa ?_
      refine tkA 3 hSa ?_
      try simp only [Act.put, sA, sB, sC]
      refine tkA 4 hSa ?_ (hy := by intro _ w; have ck1 := k1 _ w; go_simp <;> with_reducible rfl)
      try simp only [Act.put, sA, sB, sC]
      refine tkA 5 hSa ?_
      refine tkA 6 hSa ?_
      refine tkA 7 hSa ?_
      try simp only [Act.put, sA, sB, sC]
      refine tkA 8 hSa ?_ (hy := by intro _ w; have ck5 := k5 _ w; go_simp <;> with_reducible rfl)
      try simp only [Act.put, sA, sB, sC]
      refine tkA 9 hSa ?_
      refine tkA 10 hSa ?_
      refine tkA 11 hSa ?_
      try simp only [Act.put, sA, sB, sC]
      refine tkA 12 hSa ?_ (hy := by intro _ w; have ck1 := k1 _ w; go_simp <;> with_reducible rfl)
      try simp only [Act.put, sA, sB, sC]
      refine tkA 13 hSa ?_
      refine tkA 14 hSa ?_
      refine tkA 15 hSa ?_
      try simp only [Act.put, sA, sB, sC]
      refine tkA 16 hSa ?_ (hy := by intro _ w; have ck2 := k2 _ w; have ck3 := k3 _ w; have ck4 := k4 _ w; go_simp <;> with_reducible rfl)
      try simp only [Act.put, sA, sB, sC]
      refine on1 17 fun K hK => ?_
      go_simp
      refine (cE _ (HF.out.trans0 hSa)).mono ?_
      rintro e w1 ⟨rfl, hf1⟩
      have hSb : KeptN wo w1 := KeptN.next hSa hf1
      refine hK.out _ _ hSb ?_
      clear hK K
      try simp only [Act.put, sA, sB, sC]
      refine tkA 18 hSb ?_
      try simp only [Act.put, sA, sB, sC]
      refine wpAnyS_done (by kernel_rfl) ?_
      have HF1 := Lib.hid (HF.out.trans0 hSb)
      clear hSa hSb hf1 k1 k2 k3 k4 k5 m2 cE
      generalize hz : (heldL H ew (e1, e2, e3) == 0) = z at *
      cases z with
      | true =>
        go_wp2_with fail
        go_roundw
        case rel =>
          refine ⟨i + 1, n + 1, by go_num, by go_num, by omega, ?_, HF1⟩
          show _ = _
          rw [HTK.out, if_pos rfl, List.length_append, ← Nat.add_assoc, HN.out]
          rfl
        case measure => simp [intOf]; omega
      | false =>
        go_wp2_with fail
        go_roundw
        case rel =>
          refine ⟨i + 1, n, by go_num, by go_num, by omega, ?_, HF1⟩
          show _ = _
          rw [HTK.out, if_neg (by decide), List.append_nil, HN.out]
        case measure => simp [intOf]; omega
    · obtain rfl : i = W.length := by omega
      rw [List.take_length] at HN
      go_wp2_with fail
      go_ret
      refine ⟨?_, HF.out⟩
      rw [show R = n from HR.out.trans HN.out]
      rfl
theorem dk_made (w : World) (most : Int) : DkA (w.alloc (.cells #[.int .i64 most, .slice none 0 0, .slice none 0 0] 62)) w.heap.size ⟨most, [], []⟩ (fun k => k = w.heap.size) := by
  refine ⟨_, _, Bk.new w 62 #[.int .i64 most, .slice none 0 0, .slice none 0 0], OwnE.nil _, OwnE.nil _, (fun k hk => by cases hk), rfl, (fun k hk => by cases hk), (fun k hk => by cases hk), fun k hk => ?_⟩
  rw [World.size_alloc, hk]
  exact Nat.lt_succ_self _
/-- What New makes. -/
def NewDk (most : Int) (w : World) (e : Ending) (w' : World) : Prop := ∃ mb S, e = .returned (mkp mb) ∧ DkA w' mb ⟨max 0 most, [], []⟩ S ∧ (∀ k, S k → w.heap.size ≤ k) ∧ Fr w w' Nil
theorem rnew_any (most : Int) (w : World) : Calls Tryz.prog 7 #[.int .i64 most] w (NewDk most w) := by
  go_enter Tryz.func7, Tryz.ntmps7
  go_wp2_with fail
  · go_ret
    exact ⟨_, _, rfl, by rw [show max 0 most = most by omega]; exact dk_made w most, fun k hk => Nat.le_of_eq (Eq.symm hk), (Fr.refl w Nil).alloc _⟩
  · go_ret
    exact ⟨_, _, rfl, by rw [show max 0 most = 0 by omega]; exact dk_made w 0, fun k hk => Nat.le_of_eq (Eq.symm hk), (Fr.refl w Nil).alloc _⟩
end Go.Proofs.YtokeciekncincabGreat
namespace Go.Proofs.YtokeciekncincabGreat
open Go Go.RowKit Go.Maps

/-- A row of numbers made since the heap was B long. -/
def NewN (B : Nat) (w : World) (v : Value) (l : List Int) : Prop := OwnInts w 2 v l ∧ ∀ k, v.ownBlock = some k → B ≤ k
theorem NewN.nil (B : Nat) (w : World) : NewN B w (.slice none 0 0) [] := ⟨World.ownsRow_nil _ _ _ _, fun k hk => by cases hk⟩
theorem NewN.fr0 {B : Nat} {w w' : World} {v : Value} {l : List Int} (h : NewN B w v l) (hf : Fr w w' Nil) : NewN B w' v l := ⟨h.1.fr hf fun _ _ h => h, h.2⟩
theorem NewN.row {B : Nat} {w W : World} {a : Option Addr} {n c : Nat} {L : List Int} (h : NewN B w (.slice a n c) L) (hn : L.length = n) (hf : Fr w W Nil) : W.ownsRow 0 2 1 (.slice a n c) n (L.map (Value.int .i64)) := by
  have h1 := h.1.fr hf fun _ _ h => h
  unfold OwnInts at h1
  rw [hn] at h1
  exact h1
theorem NewN.push {B z : Nat} {wr W W3 : World} {a ga : Option Addr} {n c gc : Nat} {L : List Int} {x : Int} (h : NewN B wr (.slice a n c) L) (hn : L.length = n) (hB : B ≤ wr.heap.size) (hf : Fr wr W Nil)
    (ho3 : W3.ownsRow 0 2 1 (.slice ga (n + 1) gc) (n + 1) (L.map (Value.int .i64) ++ [.int .i64 x])) (hg3 : W.grownBy W3 (Value.slice a n c).ownBlock)
    (hb3 : (Value.slice ga (n + 1) gc).ownBlock = (Value.slice a n c).ownBlock ∨ (Value.slice ga (n + 1) gc).ownBlock = some z) (hz : wr.heap.size ≤ z) :
    NewN B W3 (.slice ga (n + 1) gc) (L ++ [x]) ∧ (L ++ [x]).length = n + 1 ∧ Fr wr W3 (fun k => (Value.slice a n c).ownBlock = some k) ∧ ∀ k, (Value.slice ga (n + 1) gc).ownBlock = some k → (Value.slice a n c).ownBlock = some k ∨ wr.heap.size ≤ k := by
  refine ⟨⟨?_, fun k hk => ?_⟩, by rw [List.length_append, hn]; rfl, hf.of_nil.grown hg3 fun k hk _ => hk, fun k hk => ?_⟩
  · unfold OwnInts
    rw [List.length_append, hn, List.map_append]
    exact ho3
  · rcases hb3 with h1 | h1
    · exact h.2 k (h1.symm.trans hk)
    · rw [h1] at hk
      cases hk
      omega
  · rcases hb3 with h1 | h1
    · exact .inl (h1.symm.trans hk)
    · rw [h1] at hk
      cases hk
      exact .inr hz
/-- The document's tables that are small, and whose modes are. -/
def DkB (D : LkS) (t : Nat) : Prop := (∀ e ∈ D.H, ModeOk e.m) ∧ (∀ e ∈ D.W, ModeOk e.m) ∧ D.H.length + t ≤ 900000 ∧ D.W.length ≤ 900000
theorem DkB.dropH {D : LkS} {t : Nat} (h : DkB D t) (who : Int) (s : Spot) : DkB { D with H := dropS D.H who s } t :=
  ⟨fun e he => h.1 e (List.mem_filter.1 he).1, h.2.1, Nat.le_trans (Nat.add_le_add_right (List.length_filter_le _ _) _) h.2.2.1, h.2.2.2⟩
theorem DkB.dropW {D : LkS} {t : Nat} (h : DkB D t) (who : Int) : DkB { D with W := dropA D.W who } t :=
  ⟨h.1, fun e he => h.2.1 e (List.mem_filter.1 he).1, h.2.2.1, Nat.le_trans (List.length_filter_le _ _) h.2.2.2⟩
theorem DkB.dropHA {D : LkS} {t : Nat} (h : DkB D t) (who : Int) : DkB { D with H := dropA D.H who } t :=
  ⟨fun e he => h.1 e (List.mem_filter.1 he).1, h.2.1, Nat.le_trans (Nat.add_le_add_right (List.length_filter_le _ _) _) h.2.2.1, h.2.2.2⟩
theorem DkB.put {D : LkS} {t : Nat} (h : DkB D (t + 1)) (who : Int) (s : Spot) {m : Int} (hm : ModeOk m) : DkB { D with H := putH D.H who s m } t := by
  refine ⟨fun e he => ?_, h.2.1, ?_, h.2.2.2⟩
  · rcases List.mem_append.1 he with he | he
    · exact h.1 e (List.mem_filter.1 he).1
    · rw [List.mem_singleton] at he; subst he; exact hm
  · have h1 : (putH D.H who s m).length ≤ D.H.length + 1 := by
      unfold putH
      rw [List.length_append]
      exact Nat.add_le_add_right (List.length_filter_le _ _) _
    have h2 := h.2.2.1
    show (putH D.H who s m).length + t ≤ _
    omega
theorem DkB.le {D : LkS} {t t' : Nat} (h : DkB D t) (ht : t' ≤ t) : DkB D t' := ⟨h.1, h.2.1, by have := h.2.2.1; omega, h.2.2.2⟩
theorem regrant_nil {t : Nat} {D : LkS} {s : Spot} (h : queueL D.H D.W s = []) : regrantL (t + 1) D s = ([], D) := by
  rw [regrantL, h]
theorem regrant_no {t : Nat} {D : LkS} {s : Spot} {e : LkE} {q : List LkE} (h : queueL D.H D.W s = e :: q) (hc : canL D.H e.who s e.m = false) : regrantL (t + 1) D s = ([], D) := by
  rw [regrantL, h]
  simp [hc]
theorem regrant_yes {t : Nat} {D : LkS} {s : Spot} {e : LkE} {q : List LkE} (h : queueL D.H D.W s = e :: q) (hc : canL D.H e.who s e.m = true) : regrantL (t + 1) D s = (e.who :: (regrantL t (grantL D e s) s).1, (regrantL t (grantL D e s) s).2) := by
  rw [regrantL, h]
  simp [hc]
/-- What a regrant leaves and gives. -/
def GrantRet (w : World) (S : Nat → Prop) (mb : Nat) (L : List Int) (D' : LkS) (v : Value) (w' : World) : Prop :=
  ∃ S', NewN w.heap.size w' v L ∧ DkA w' mb D' S' ∧ Fr w w' S ∧ (∀ k, S' k → S k ∨ w.heap.size ≤ k) ∧ ∀ k, v.ownBlock = some k → ¬ S' k
theorem GrantRet.fr0 {w w1 w' : World} {S : Nat → Prop} {mb : Nat} {L : List Int} {D' : LkS} {v : Value} (h : GrantRet w S mb L D' v w1) (hf : Fr w1 w' Nil) : GrantRet w S mb L D' v w' := by
  obtain ⟨S', h1, h2, h3, h4, h5⟩ := h
  exact ⟨S', h1.fr0 hf, h2.fr0 hf, h3.trans hf.of_nil (fun _ _ h => h), h4, h5⟩
theorem GrantRet.ahead {w w1 w' : World} {S : Nat → Prop} {mb : Nat} {L : List Int} {D' : LkS} {v : Value} (hf : Fr w w1 Nil) (h : GrantRet w1 S mb L D' v w') : GrantRet w S mb L D' v w' := by
  obtain ⟨S', h1, h2, h3, h4, h5⟩ := h
  have hz := hf.size
  exact ⟨S', ⟨h1.1, fun k hk => by have := h1.2 k hk; omega⟩, h2, hf.of_nil.trans h3 (fun _ _ h => h), fun k hk => (h4 k hk).imp id fun h => by omega, h5⟩
/-- Where the loop stands. -/
def GrAt (w0 : World) (S : Nat → Prop) (mb : Nat) (s : Spot) (L : List Int) (D' : LkS) (vw vt : Value) (wr : World) : Prop :=
  ∃ (t n : Nat) (a : Option Addr) (c : Nat) (pre : List Int) (D1 : LkS), vt = .int .i64 (t : Int) ∧ vw = .slice a n c ∧ Hid (pre.length = n) ∧ Hid (GrantRet w0 S mb pre D1 (.slice a n c) wr) ∧ Hid (DkB D1 t) ∧ Hid (n + t ≤ 900000) ∧ Hid (L = pre ++ (regrantL t D1 s).1 ∧ D' = (regrantL t D1 s).2)
set_option maxRecDepth 100000 in
set_option maxHeartbeats 4000000 in
theorem rregrant_any {mb : Nat} {D : LkS} {S : Nat → Prop} (s : Spot) (w : World) (h : DkA w mb D S) (hB : DkB D D.W.length) :
    Calls Tryz.prog 65 #[mkp mb, spV s] w fun e w' => ∃ v, e = .returned v ∧ GrantRet w S mb (regrantL D.W.length D s).1 (regrantL D.W.length D s).2 v w' := by
  obtain ⟨w0, hw0⟩ : ∃ w0, w.alloc (.cells #[.int .i64 s.1, .bool s.2.1, .int .i64 s.2.2] 30) = w0 := ⟨_, rfl⟩
  have hf0 : Fr w w0 Nil := by rw [← hw0]; exact (Fr.refl w Nil).alloc _
  have hb0 : Bk w0 w.heap.size 30 [.int .i64 s.1, .bool s.2.1, .int .i64 s.2.2] := by rw [← hw0]; exact Bk.new w _ _
  have hxS : ∀ k, S k → k ≠ w.heap.size := fun k hk e => by have := h.lt k hk; omega
  have HA := Lib.hid (h.fr0 hf0)
  obtain ⟨hv, wv, hg⟩ := h.fr0 hf0
  obtain ⟨wa, wc, rfl⟩ := hg.wishes.shape
  have m2 : w0.cell? ⟨mb, 2, none⟩ = some (.slice wa D.W.length wc) := hg.root.cell 2
  have HF0 := Lib.hid hf0
  have HB0 := Lib.hid hb0
  have HXS := Lib.hid hxS
  have HXZ : Hid (w.heap.size < w0.heap.size) := hb0.lt
  have HDB := Lib.hid hB
  have hwl := hB.2.2.2
  obtain ⟨L, hL⟩ : ∃ L, (regrantL D.W.length D s).1 = L := ⟨_, rfl⟩
  obtain ⟨D', hD'⟩ : ∃ D', (regrantL D.W.length D s).2 = D' := ⟨_, rfl⟩
  rw [hL, hD']
  have HL := Lib.hid hL
  have HD' := Lib.hid hD'
  clear h hg hf0 hb0 hL hD' hB hxS
  go_enter Tryz.func65, Tryz.ntmps65
  go_wp2_with fail
  clear m2
  go_loopw [5, 6] (fun vw vt wr => GrAt w0 S mb s L D' vw vt wr) (fun _ vt _ => (intOf vt).toNat)
  case atStart => exact ⟨D.W.length, 0, none, 0, [], D, by go_num, rfl, rfl, ⟨S, NewN.nil _ _, HA.out, Fr.refl _ _, fun _ h => .inl h, fun k hk => by cases hk⟩, HDB.out, by show _ ≤ _; omega, ⟨HL.out.symm, HD'.out.symm⟩⟩
  case round =>
    clear HA HDB HL HD' hwl
    generalize D.W.length = wl
    obtain ⟨t, n, a, c, pre, D1, rfl, rfl, HPN, HGR, HDB, HNT, HEQ⟩ := hrel
    obtain ⟨wo, rfl⟩ : ∃ wo : World, wo = wr := ⟨_, rfl⟩
    cases t with
    | zero =>
      have hz : ¬ ((0 : Nat) : Int) > 0 := by omega
      have HEND : Hid (GrantRet w S mb L D' (.slice a n c) wo) := by
        obtain ⟨h1, h2⟩ := HEQ.out
        rw [h1, h2]
        exact GrantRet.ahead HF0.out (by simpa [regrantL] using HGR.out)
      go_wp2_with fail
      go_ret
      exact ⟨_, rfl, HEND.out⟩
    | succ t =>
      have hz : ((t + 1 : Nat) : Int) > 0 := by omega
      obtain ⟨S1, hN, hA, hF, hS1, hfar⟩ := HGR.out
      have HN := Lib.hid hN
      have HA := Lib.hid hA
      have HF := Lib.hid hF
      have HS1 := Lib.hid hS1
      have HFAR := Lib.hid hfar
      have HX1 : Hid (¬ S1 w.heap.size) := fun h => by
        rcases HS1.out _ h with h | h
        · exact HXS.out _ h rfl
        · have := HXZ.out; omega
      have hbo := HB0.out.fr HF.out (fun h => HXS.out _ h rfl)
      have HBO := Lib.hid hbo
      have r0 : wo.cell? ⟨w.heap.size, 0, none⟩ = some (.int .i64 s.1) := hbo.cell 0
      have r1 : wo.cell? ⟨w.heap.size, 1, none⟩ = some (.bool s.2.1) := hbo.cell 1
      have r2 : wo.cell? ⟨w.heap.size, 2, none⟩ = some (.int .i64 s.2.2) := hbo.cell 2
      have cQ := rqueue_any s wo HA.out (by have := HDB.out.2.2.1; omega) (by have := HDB.out.2.2.2; omega)
      clear hN hA hF hS1 hfar hbo HGR
      go_wp2_with fail
      refine cQ.mono ?_
      rintro e w1 ⟨qv, rfl, hq, hf1⟩
      obtain ⟨qa, qc, rfl⟩ := hq.1.shape
      have HQ := Lib.hid hq
      have HF1 := Lib.hid hf1
      clear hq hf1 cQ r0 r1 r2
      cases hQ : queueL D1.H D1.W s with
      | nil =>
        have HEND : Hid (GrantRet w S mb L D' (.slice a n c) w1) := by
          obtain ⟨h1, h2⟩ := HEQ.out
          rw [h1, h2, regrant_nil hQ]
          refine GrantRet.ahead HF0.out ⟨S1, ?_, HA.out.fr0 HF1.out, HF.out.trans0 HF1.out, HS1.out, HFAR.out⟩
          simpa using HN.out.fr0 HF1.out
        have hnn : ((([] : List LkE).length : Nat) : Int) = 0 := rfl
        go_wp2_with fail
        refine wp_region_sink 17 (KeptN w1) (by kernel_rfl) ?_
        have hSa : KeptN w1 w1.drew := KeptN.start w1
        refine tkA 0 hSa ?_
        refine tkA 1 hSa ?_
        refine tkA 2 hSa ?_
        refine tkA 3 hSa ?_
        try simp only [Act.put, sA, sB, sC]
        refine skA 4 hSa ?_
        try simp only [Act.put, sA, sB, sC]
        refine skA 5 hSa ?_
        try simp only [Act.put, sA, sB, sC]
        refine skA 6 hSa ?_
        try simp only [Act.put, sA, sB, sC]
        refine skA 7 hSa ?_
        try simp only [Act.put, sA, sB, sC]
        refine skA 8 hSa ?_
        try simp only [Act.put, sA, sB, sC]
        refine skA 9 hSa ?_
        try simp only [Act.put, sA, sB, sC]
        refine skA 10 hSa ?_
        try simp only [Act.put, sA, sB, sC]
        refine skA 11 hSa ?_
        try simp only [Act.put, sA, sB, sC]
        refine skA 12 hSa ?_
        try simp only [Act.put, sA, sB, sC]
        refine skA 13 hSa ?_
        try simp only [Act.put, sA, sB, sC]
        refine skA 14 hSa ?_
        try simp only [Act.put, sA, sB, sC]
        refine skA 15 hSa ?_
        try simp only [Act.put, sA, sB, sC]
        refine tkA 16 hSa ?_
        try simp only [Act.put, sA, sB, sC]
        refine wpAnyS_done (by kernel_rfl) ?_
        have HEND2 := Lib.hid (HEND.out.fr0 hSa)
        clear hSa
        go_wp2_with fail
        go_ret
        exact ⟨_, rfl, HEND2.out⟩
      | cons e0 q =>
        rw [hQ] at HQ
        have hnn : ¬ (((e0 :: q).length : Nat) : Int) = 0 := by rw [List.length_cons]; omega
        have hnp : (0 : Int) < (((e0 :: q).length : Nat) : Int) := by rw [List.length_cons]; omega
        have hnp2 : 0 < (e0 :: q).length := by rw [List.length_cons]; omega
        have hnb : ((((e0 :: q).length : Nat) : Int) == 0) = false := by rw [beq_eq_false_iff_ne]; exact hnn
        obtain ⟨qb, qc', hvv, _, hcl⟩ := HQ.out.1.form (by rw [List.length_cons]; omega)
        simp only [Value.slice.injEq, true_and] at hvv
        obtain ⟨rfl, rfl⟩ := hvv
        obtain ⟨_, _, _, q3, q4⟩ := hcl 0 e0 rfl
        simp only [Nat.zero_mul, Nat.zero_add] at q3 q4
        have HQB : Hid (wo.heap.size ≤ qb) := HQ.out.2 qb rfl
        have hQM := queueL_mem (show e0 ∈ queueL D1.H D1.W s by rw [hQ]; exact List.mem_cons_self)
        have HM0 : Hid (ModeOk e0.m) := HDB.out.2.1 e0 hQM.1
        have HA1 := Lib.hid (HA.out.fr0 HF1.out)
        have HN1 := Lib.hid (HN.out.fr0 HF1.out)
        have HBO1 := Lib.hid (HBO.out.fr HF1.out fun h => h)
        have HF01 := Lib.hid (HF.out.trans0 HF1.out)
        have HQS : Hid (¬ S1 qb) := fun h => by have := HA.out.lt _ h; have := HQB.out; omega
        have HQR := Lib.hid HQ.out.1
        have cC := fun (w' : World) (hf : Fr w1 w' Nil) => rcan_any e0.who s HM0.out w' (HA1.out.fr0 hf) (by have := HDB.out.2.2.1; omega) HDB.out.1
        have k1 : ∀ w', KeptN w1 w' → w'.cell? ⟨w.heap.size, 0, none⟩ = some (.int .i64 s.1) := KeptN.cell (HBO1.out.cell 0)
        have k2 : ∀ w', KeptN w1 w' → w'.cell? ⟨w.heap.size, 1, none⟩ = some (.bool s.2.1) := KeptN.cell (HBO1.out.cell 1)
        have k3 : ∀ w', KeptN w1 w' → w'.cell? ⟨w.heap.size, 2, none⟩ = some (.int .i64 s.2.2) := KeptN.cell (HBO1.out.cell 2)
        have k4 : ∀ w', KeptN w1 w' → w'.cell? ⟨qb, 3, none⟩ = some (.int .i64 e0.who) := KeptN.cell q3
        have k5 : ∀ w', KeptN w1 w' → w'.cell? ⟨qb, 4, none⟩ = some (.int .u8 e0.m) := KeptN.cell q4
        obtain ⟨cc, hcc⟩ : ∃ cc, canL D1.H e0.who s e0.m = cc := ⟨_, rfl⟩
        rw [hcc] at cC
        have HE0 : Hid ((regrantL (t + 1) D1 s = if cc then (e0.who :: (regrantL t (grantL D1 e0 s) s).1, (regrantL t (grantL D1 e0 s) s).2) else ([], D1))) := by
          show _ = _
          cases cc with
          | true => exact regrant_yes hQ hcc
          | false => exact regrant_no hQ hcc
        have HQ3 := Lib.hid q3
        have HQ4 := Lib.hid q4
        have hnt := HNT.out
        clear hcl hQM q3 q4 hQ hcc HA HN HF HQ HBO
        generalize (e0 :: q).length = ql at *
        go_wp2_with fail
        refine wp_region_sink 17 (KeptN w1) (by kernel_rfl) ?_
        have hSa : KeptN w1 w1.drew := KeptN.start w1
        refine tkA 0 hSa ?_
        refine tkA 1 hSa ?_
        refine tkA 2 hSa ?_
        refine tkA 3 hSa ?_
        refine tkA 4 hSa ?_
        refine tkA 5 hSa ?_
        refine tkA 6 hSa ?_
        refine tkA 7 hSa ?_
        try simp only [Act.put, sA, sB, sC]
        refine tkA 8 hSa ?_ (hy := by intro _ w; have ck4 := k4 _ w; go_simp <;> with_reducible rfl)
        try simp only [Act.put, sA, sB, sC]
        refine tkA 9 hSa ?_ (hy := by intro _ w; have ck1 := k1 _ w; have ck2 := k2 _ w; have ck3 := k3 _ w; go_simp <;> with_reducible rfl)
        try simp only [Act.put, sA, sB, sC]
        refine tkA 10 hSa ?_
        refine tkA 11 hSa ?_
        refine tkA 12 hSa ?_
        try simp only [Act.put, sA, sB, sC]
        refine tkA 13 hSa ?_ (hy := by intro _ w; have ck5 := k5 _ w; go_simp <;> with_reducible rfl)
        try simp only [Act.put, sA, sB, sC]
        refine on1 14 fun K hK => ?_
        go_simp
        refine (cC _ hSa).mono ?_
        rintro e w2 ⟨rfl, hf2⟩
        have hSb : KeptN w1 w2 := KeptN.next hSa hf2
        refine hK.out _ _ hSb ?_
        clear hK K
        try simp only [Act.put, sA, sB, sC]
        refine tkA 15 hSb ?_
        refine tkA 16 hSb ?_
        try simp only [Act.put, sA, sB, sC]
        refine wpAnyS_done (by kernel_rfl) ?_
        have HF2 := Lib.hid (show Fr w1 w2 Nil from hSb)
        clear hSa hSb hf2 cC
        cases cc with
        | false =>
          have HEND : Hid (GrantRet w S mb L D' (.slice a n c) w2) := by
            obtain ⟨h1, h2⟩ := HEQ.out
            rw [h1, h2, HE0.out]
            refine GrantRet.ahead HF0.out ⟨S1, ?_, HA1.out.fr0 HF2.out, HF01.out.trans0 HF2.out, HS1.out, HFAR.out⟩
            simpa using HN1.out.fr0 HF2.out
          go_wp2_with fail
          go_ret
          exact ⟨_, rfl, HEND.out⟩
        | true =>
          clear k1 k2 k3 k4 k5
          have HBO2 := Lib.hid (HBO1.out.fr HF2.out fun h => h)
          obtain ⟨hv1, wv1, hg2⟩ := HA1.out.fr0 HF2.out
          have HG2 := Lib.hid hg2
          have cD := fun (w' : World) (hf : Fr w2 w' Nil) => rdrop_any e0.who s true w' (hg2.wishes.fr hf fun _ _ h => h) (by have := HDB.out.2.2.2; omega)
          rw [dropB_all] at cD
          have k1 : ∀ w', KeptN w2 w' → w'.cell? ⟨w.heap.size, 0, none⟩ = some (.int .i64 s.1) := KeptN.cell (HBO2.out.cell 0)
          have k2 : ∀ w', KeptN w2 w' → w'.cell? ⟨w.heap.size, 1, none⟩ = some (.bool s.2.1) := KeptN.cell (HBO2.out.cell 1)
          have k3 : ∀ w', KeptN w2 w' → w'.cell? ⟨w.heap.size, 2, none⟩ = some (.int .i64 s.2.2) := KeptN.cell (HBO2.out.cell 2)
          have k4 : ∀ w', KeptN w2 w' → w'.cell? ⟨qb, 3, none⟩ = some (.int .i64 e0.who) := KeptN.cell (HF2.out.cell HQ3.out fun h => h)
          have k6 : ∀ w', KeptN w2 w' → w'.cell? ⟨mb, 2, none⟩ = some wv1 := KeptN.cell (hg2.root.cell 2)
          clear hg2
          go_wp2_with fail
          refine wp_region_sink 13 (KeptN w2) (by kernel_rfl) ?_
          have hSa : KeptN w2 w2.drew := KeptN.start w2
          refine tk 0 hSa ?_
          refine tk 1 hSa ?_
          refine tk 2 hSa ?_
          refine tk 3 hSa ?_
          try simp only [Act.put, sA, sB, sC]
          refine tk 4 hSa ?_ (hy := by intro _ w; have ck6 := k6 _ w; go_simp <;> with_reducible rfl)
          try simp only [Act.put, sA, sB, sC]
          refine tk 5 hSa ?_
          refine tk 6 hSa ?_
          refine tk 7 hSa ?_
          try simp only [Act.put, sA, sB, sC]
          refine tk 8 hSa ?_ (hy := by intro _ w; have ck4 := k4 _ w; go_simp <;> with_reducible rfl)
          try simp only [Act.put, sA, sB, sC]
          refine tk 9 hSa ?_ (hy := by intro _ w; have ck1 := k1 _ w; have ck2 := k2 _ w; have ck3 := k3 _ w; go_simp <;> with_reducible rfl)
          try simp only [Act.put, sA, sB, sC]
          refine on1 10 fun K hK => ?_
          go_simp
          refine (cD _ hSa).mono ?_
          rintro e w3 ⟨v4, rfl, hn4, hf4⟩
          obtain ⟨vn, hvn⟩ : ∃ vn, (dropA D1.W e0.who).length = vn := ⟨_, rfl⟩
          obtain ⟨va, vc, rfl⟩ := hn4.1.shape
          rw [hvn] at hn4 ⊢
          have hSb : KeptN w2 w3 := KeptN.next hSa hf4
          refine hK.out _ _ hSb ?_
          clear hK K
          try simp only [Act.put, sA, sB, sC]
          refine tk 11 hSb ?_
          refine tk 12 hSb ?_
          try simp only [Act.put, sA, sB, sC]
          have hrt := HG2.out.root.fr hSb fun h => h
          have c2 := hrt.cell 2
          have f2 := hrt.free 2
          refine wpAnyS_last (i := 13) rfl (by kernel_rfl) (by decide) (by kernel_rfl) (by rfl) fun K hK => ?_
          go_simp
          refine hK.out _ _ ?_
          clear hK K
          have hnv : ∀ k, (Value.slice va vn vc).ownBlock = some k → w2.heap.size ≤ k := fun k hk => Nat.le_trans (Fr.size hSa) (hn4.2 k hk)
          have hend := HG2.out.setW hSb (fun _ h => False.elim h) hn4.1 fun k hk => .inr (hnv k hk)
          obtain ⟨W4, hW4⟩ : ∃ W4, w3.setCell ⟨mb, 2, none⟩ (Value.slice va vn vc) = W4 := ⟨_, rfl⟩
          rw [hW4] at hend ⊢
          obtain ⟨S4, hS4⟩ : ∃ S4 : Nat → Prop, S4 = (fun k => S1 k ∨ (Value.slice va vn vc).ownBlock = some k) := ⟨_, rfl⟩
          rw [← hS4] at hend
          have HA4 : Hid (DkA W4 mb { D1 with W := dropA D1.W e0.who } S4) := ⟨_, _, hend.1⟩
          have HF4 := Lib.hid hend.2
          have HS4 : Hid (∀ k, S4 k → S1 k ∨ w2.heap.size ≤ k) := fun k hk => by
            rw [hS4] at hk
            exact hk.imp id (hnv k)
          have HQL : Hid (qb < w1.heap.size) := HQR.out.lt rfl
          have HQS4 : Hid (¬ S4 qb) := fun h => by
            rcases HS4.out _ h with h | h
            · exact HQS.out h
            · have := HQL.out; have := HF2.out.size; omega
          have HX4 : Hid (¬ S4 w.heap.size) := fun h => by
            rcases HS4.out _ h with h | h
            · exact HX1.out h
            · have := HXZ.out; have := HF01.out.size; have := HF2.out.size; omega
          have HV4 : Hid (∀ k, (Value.slice a n c).ownBlock = some k → ¬ S4 k) := fun k hk h => by
            rcases HS4.out _ h with h | h
            · exact HFAR.out k hk h
            · have := HN1.out.1.lt k hk; have := HF2.out.size; omega
          have hbo4 := HBO2.out.fr hend.2 (fun h => HX1.out h)
          have hq3 := HF4.out.cell (HF2.out.cell HQ3.out fun h => h) (fun h => HQS.out h)
          have hq4 := HF4.out.cell (HF2.out.cell HQ4.out fun h => h) (fun h => HQS.out h)
          have HN4 : Hid (NewN w0.heap.size W4 (.slice a n c) pre) := ⟨(HN1.out.fr0 HF2.out).1.fr HF4.out fun k hk h => HFAR.out k hk h, HN1.out.2⟩
          have HQ34 := Lib.hid hq3
          have g1 : ∀ w', KeptN W4 w' → w'.cell? ⟨w.heap.size, 0, none⟩ = some (.int .i64 s.1) := KeptN.cell (hbo4.cell 0)
          have g2 : ∀ w', KeptN W4 w' → w'.cell? ⟨w.heap.size, 1, none⟩ = some (.bool s.2.1) := KeptN.cell (hbo4.cell 1)
          have g3 : ∀ w', KeptN W4 w' → w'.cell? ⟨w.heap.size, 2, none⟩ = some (.int .i64 s.2.2) := KeptN.cell (hbo4.cell 2)
          have g4 : ∀ w', KeptN W4 w' → w'.cell? ⟨qb, 3, none⟩ = some (.int .i64 e0.who) := KeptN.cell hq3
          have g5 : ∀ w', KeptN W4 w' → w'.cell? ⟨qb, 4, none⟩ = some (.int .u8 e0.m) := KeptN.cell hq4
          have cL := fun (w' : World) (hf : Fr W4 w' Nil) => rholds_any e0.who s e0.m w' (HA4.out.fr0 hf) (by have h9 := HDB.out.2.2.1; show D1.H.length + 1 ≤ _; omega)
          clear hSa hSb hf4 hn4 hvn hnv hend hW4 hS4 hrt c2 f2 k1 k2 k3 k4 k6 cD hbo4 hq3 hq4
          go_wp2_with fail
          refine wp_region_sink 10 (KeptN W4) (by kernel_rfl) ?_
          have hSa : KeptN W4 W4.drew := KeptN.start W4
          refine tk 0 hSa ?_
          refine tk 1 hSa ?_
          refine tk 2 hSa ?_
          refine tk 3 hSa ?_
          try simp only [Act.put, sA, sB, sC]
          refine tk 4 hSa ?_ (hy := by intro _ w; have cg4 := g4 _ w; go_simp <;> with_reducible rfl)
          try simp only [Act.put, sA, sB, sC]
          refine tk 5 hSa ?_ (hy := by intro _ w; have cg1 := g1 _ w; have cg2 := g2 _ w; have cg3 := g3 _ w; go_simp <;> with_reducible rfl)
          try simp only [Act.put, sA, sB, sC]
          refine tk 6 hSa ?_
          refine tk 7 hSa ?_
          refine tk 8 hSa ?_
          try simp only [Act.put, sA, sB, sC]
          refine tk 9 hSa ?_ (hy := by intro _ w; have cg5 := g5 _ w; go_simp <;> with_reducible rfl)
          try simp only [Act.put, sA, sB, sC]
          refine wpAnyS_last (i := 10) rfl (by kernel_rfl) (by decide) (by kernel_rfl) (by rfl) fun K hK => ?_
          go_simp
          refine (cL _ hSa).mono ?_
          rintro e w5 ⟨rfl, hN5⟩
          refine hK.out _ _ ?_
          clear hK K
          obtain ⟨S5, hA5, hF5, hS5⟩ := DkN.ahead hSa hN5
          have HA5 := Lib.hid hA5
          have HF5 := Lib.hid hF5
          have HS5 := Lib.hid hS5
          have HN5 : Hid (NewN w0.heap.size w5 (.slice a n c) pre) := ⟨HN4.out.1.fr hF5 fun k hk h => HV4.out k hk h, HN4.out.2⟩
          have hq5 := hF5.cell HQ34.out (fun h => HQS4.out h)
          have HV5 : Hid (∀ k, (Value.slice a n c).ownBlock = some k → ¬ S5 k) := fun k hk h => by
            rcases HS5.out _ h with h | h
            · exact HV4.out k hk h
            · have := HN4.out.1.lt k hk; omega
          have HOR := Lib.hid (HN5.out.row HPN.out ((Fr.refl w5 Nil).alloc (.cells #[.int .i64 e0.who] 2)))
          have HONE := Lib.hid (one_new w5 e0.who)
          have HON1 : Hid (∀ u ∈ [Value.int .i64 e0.who], u.oneCell' = true) := fun u hu => by rw [List.mem_singleton] at hu; subst hu; rfl
          have HLB : Hid (n + 1 ≤ 1000000) := by have h9 : n + 1 ≤ 1000000 := (by omega); exact h9
          clear hSa hN5 hA5 hF5 hS5 g1 g2 g3 g4 g5 cL
          go_wp2_with (at_builtin; refine wpList_app _ rfl _ _ 40 rfl sl64 (.slice a n c) rfl HOR.out _ rfl HONE.out HON1.out HLB.out ?_)
          intro ga gc W6 ho6 hg6 hb6
          have hp := HN5.out.push HPN.out (Nat.le_trans HF01.out.size (Nat.le_trans HF2.out.size (Nat.le_trans HF4.out.size HF5.out.size))) ((Fr.refl w5 Nil).alloc _) ho6 hg6 hb6 (Nat.le_succ _)
          have HP := Lib.hid hp
          clear ho6 hg6 hb6 hp hq5
          go_wp2_with fail
          go_roundw
          case rel =>
            have z1 := HF01.out.size
            have z2 := HF2.out.size
            have z4 := HF4.out.size
            refine ⟨t, n + 1, ga, gc, pre ++ [e0.who], grantL D1 e0 s, by go_num, rfl, HP.out.2.1, ⟨S5, HP.out.1, HA5.out.fr HP.out.2.2.1 (fun k hk h => HV5.out k h hk), ?_, fun k hk => ?_, fun k hk h => ?_⟩, (HDB.out.dropW e0.who).put e0.who s HM0.out, by show _ ≤ _; omega, ?_⟩
            · refine (((HF01.out.trans0 HF2.out).trans HF4.out fun k hk h => ?_).trans HF5.out fun k hk h => ?_).trans HP.out.2.2.1 fun k hk h => ?_
              · rcases HS1.out k h with h | h
                · exact h
                · omega
              · rcases HS4.out k h with h | h
                · rcases HS1.out k h with h | h
                  · exact h
                  · omega
                · omega
              · have := HN5.out.2 k h; omega
            · rcases HS5.out k hk with h | h
              · rcases HS4.out k h with h | h
                · exact HS1.out k h
                · right; omega
              · right; omega
            · rcases HP.out.2.2.2 k hk with h2 | h2
              · exact HV5.out k h2 h
              · have := HA5.out.lt k h; omega
            · obtain ⟨h1, h2⟩ := HEQ.out
              rw [HE0.out] at h1 h2
              refine ⟨?_, ?_⟩
              · rw [h1]; simp
              · rw [h2]; simp
          case measure => simp [intOf]
end Go.Proofs.YtokeciekncincabGreat
namespace Go.Proofs.YtokeciekncincabGreat
open Go Go.RowKit Go.Maps

theorem woken_single (D : LkS) (s : Spot) : wokenL D [s] = regrantL D.W.length D s := by simp [wokenL]
theorem GrantRet.then {w w1 w2 : World} {S S1 : Nat → Prop} {mb : Nat} {L : List Int} {D' : LkS} {v : Value} (hf : Fr w w1 S) (hs : ∀ k, S1 k → S k ∨ w.heap.size ≤ k) (h : GrantRet w1 S1 mb L D' v w2) : GrantRet w S mb L D' v w2 := by
  obtain ⟨S', h1, h2, h3, h4, h5⟩ := h
  have hz := hf.size
  exact ⟨S', ⟨h1.1, fun k hk => by have := h1.2 k hk; omega⟩, h2, hf.trans h3 (fun k hk h => (hs k h).elim id fun h => by omega), fun k hk => (h4 k hk).elim (hs k) fun h => .inr (by omega), h5⟩
theorem GrantRet.none {w w' : World} {S : Nat → Prop} {mb : Nat} {D : LkS} (h : DkA w mb D S) (hf : Fr w w' Nil) : GrantRet w S mb [] D (.slice none 0 0) w' :=
  ⟨S, NewN.nil _ _, h.fr0 hf, hf.of_nil, fun _ h => .inl h, fun k hk => by cases hk⟩
def FreeDk (w : World) (S : Nat → Prop) (mb : Nat) (R : (List Int × Int) × LkS) (e : Ending) (w' : World) : Prop := ∃ v, e = .returned (.tuple #[v, .int .i64 R.1.2]) ∧ GrantRet w S mb R.1.1 R.2 v w'
theorem free_some {D : LkS} {who : Int} {s : Spot} {e : LkE} (h : wishL D.W who = some e) : freeL D who s = (([], 4), D) := by unfold freeL; rw [h]; rfl
theorem free_zero {D : LkS} {who : Int} {s : Spot} (h : wishL D.W who = none) (hz : (heldL D.H who s == 0) = true) : freeL D who s = (([], 5), D) := by
  unfold freeL
  rw [h, if_neg (by simp), if_pos (by rw [beq_iff_eq] at hz; exact hz)]
theorem free_go {D : LkS} {who : Int} {s : Spot} (h : wishL D.W who = none) (hz : (heldL D.H who s == 0) = false) : freeL D who s = (((regrantL D.W.length { D with H := dropS D.H who s } s).1, 0), (regrantL D.W.length { D with H := dropS D.H who s } s).2) := by
  unfold freeL
  rw [h, if_neg (by simp), if_neg (by rw [beq_eq_false_iff_ne] at hz; exact hz), woken_single]
theorem cancel_none {D : LkS} {who : Int} (h : wishL D.W who = none) : cancelL D who = (([], 5), D) := by unfold cancelL; rw [h]
theorem cancel_some {D : LkS} {who : Int} {e : LkE} (h : wishL D.W who = some e) : cancelL D who = (((regrantL (dropA D.W who).length { D with W := dropA D.W who } e.s).1, 0), (regrantL (dropA D.W who).length { D with W := dropA D.W who } e.s).2) := by
  unfold cancelL; rw [h]; simp only; rw [woken_single]
set_option maxRecDepth 100000 in
set_option maxHeartbeats 4000000 in
theorem rfree_any {mb : Nat} {D : LkS} {S : Nat → Prop} (who : Int) (s : Spot) (w : World) (h : DkA w mb D S) (hB : DkB D D.W.length) :
    Calls Tryz.prog 29 #[mkp mb, .int .i64 who, spV s] w (FreeDk w S mb (freeL D who s)) := by
  obtain ⟨w0, hw0⟩ : ∃ w0, w.alloc (.cells #[.int .i64 s.1, .bool s.2.1, .int .i64 s.2.2] 30) = w0 := ⟨_, rfl⟩
  have hf0 : Fr w w0 Nil := by rw [← hw0]; exact (Fr.refl w Nil).alloc _
  have hb0 : Bk w0 w.heap.size 30 [.int .i64 s.1, .bool s.2.1, .int .i64 s.2.2] := by rw [← hw0]; exact Bk.new w _ _
  have HX : Hid (¬ S w.heap.size) := fun hk => by have := h.lt _ hk; omega
  have HA := Lib.hid (h.fr0 hf0)
  have HF0 := Lib.hid hf0
  have HB0 := Lib.hid hb0
  have HDB := Lib.hid hB
  have r0 := hb0.cell 0
  have r1 := hb0.cell 1
  have r2 := hb0.cell 2
  have cW := rwish_any who w0 HA.out (by have := hB.2.2.2; omega)
  have cH := rheld_any who s w0 HA.out (by have := hB.2.2.1; omega)
  obtain ⟨hm, hhm⟩ : ∃ hm, heldL D.H who s = hm := ⟨_, rfl⟩
  rw [hhm] at cH
  have HM := Lib.hid hhm
  clear hhm
  obtain ⟨R, hR⟩ : ∃ R, freeL D who s = R := ⟨_, rfl⟩
  rw [hR]
  have HR := Lib.hid hR.symm
  clear h hf0 hb0 hB hR
  go_enter Tryz.func29, Tryz.ntmps29
  go_wp2_with fail
  refine cW.mono ?_
  rintro e w1 ⟨r, rfl, hr, rfl⟩
  clear cW
  rcases hr with ⟨rfl, hn⟩ | ⟨i, e, rfl, he, hs⟩
  · have HWN := Lib.hid hn
    clear hn
    go_wp2_with fail
    refine cH.mono ?_
    obtain ⟨w0, rfl⟩ : ∃ w0, w0 = w1 := ⟨_, rfl⟩
    rintro e w1 ⟨rfl, hf1⟩
    have HF1 := Lib.hid (HF0.out.trans0 hf1)
    have HA1 := Lib.hid (HA.out.fr0 hf1)
    have HB1 := Lib.hid (HB0.out.fr hf1 fun h => h)
    clear cH r0 r1 r2 hf1
    cases hz : (hm == 0) with
    | true =>
      have hRR := HR.out
      rw [free_zero HWN.out (by rw [HM.out]; exact hz)] at hRR
      subst hRR
      go_wp2_with fail
      go_ret2
      exact ⟨_, rfl, GrantRet.ahead HF1.out (GrantRet.none HA1.out (Fr.refl _ _))⟩
    | false =>
      have hRR := HR.out
      rw [free_go HWN.out (by rw [HM.out]; exact hz)] at hRR
      have HR := Lib.hid hRR
      obtain ⟨hv1, wv1, hg⟩ := HA1.out
      have HG := Lib.hid hg
      have cD := fun (w' : World) (hf : Fr w1 w' Nil) => rdrop_any who s false w' (hg.holds.fr hf fun _ _ h => h) (by have := HDB.out.2.2.1; omega)
      rw [dropB_one] at cD
      have k1 : ∀ w', KeptN w1 w' → w'.cell? ⟨w.heap.size, 0, none⟩ = some (.int .i64 s.1) := KeptN.cell (HB1.out.cell 0)
      have k2 : ∀ w', KeptN w1 w' → w'.cell? ⟨w.heap.size, 1, none⟩ = some (.bool s.2.1) := KeptN.cell (HB1.out.cell 1)
      have k3 : ∀ w', KeptN w1 w' → w'.cell? ⟨w.heap.size, 2, none⟩ = some (.int .i64 s.2.2) := KeptN.cell (HB1.out.cell 2)
      have k6 : ∀ w', KeptN w1 w' → w'.cell? ⟨mb, 1, none⟩ = some hv1 := KeptN.cell (hg.root.cell 1)
      clear hg hRR
      go_wp2_with fail
      refine wp_region_sink 10 (KeptN w1) (by kernel_rfl) ?_
      have hSa : KeptN w1 w1.drew := KeptN.start w1
      refine tk 0 hSa ?_
      refine tk 1 hSa ?_
      refine tk 2 hSa ?_
      refine tk 3 hSa ?_
      try simp only [Act.put, sA, sB, sC]
      refine tk 4 hSa ?_ (hy := by intro _ w; have ck6 := k6 _ w; go_simp <;> with_reducible rfl)
      try simp only [Act.put, sA, sB, sC]
      refine tk 5 hSa ?_
      try simp only [Act.put, sA, sB, sC]
      refine tk 6 hSa ?_ (hy := by intro _ w; have ck1 := k1 _ w; have ck2 := k2 _ w; have ck3 := k3 _ w; go_simp <;> with_reducible rfl)
      try simp only [Act.put, sA, sB, sC]
      refine on1 7 fun K hK => ?_
      go_simp
      refine (cD _ hSa).mono ?_
      rintro e w3 ⟨v4, rfl, hn4, hf4⟩
      obtain ⟨vn, hvn⟩ : ∃ vn, (dropS D.H who s).length = vn := ⟨_, rfl⟩
      obtain ⟨va, vc, rfl⟩ := hn4.1.shape
      rw [hvn] at hn4 ⊢
      have hSb : KeptN w1 w3 := KeptN.next hSa hf4
      refine hK.out _ _ hSb ?_
      clear hK K
      try simp only [Act.put, sA, sB, sC]
      refine tk 8 hSb ?_
      refine tk 9 hSb ?_
      try simp only [Act.put, sA, sB, sC]
      have hrt := HG.out.root.fr hSb fun h => h
      have c2 := hrt.cell 1
      have f2 := hrt.free 1
      refine wpAnyS_last (i := 10) rfl (by kernel_rfl) (by decide) (by kernel_rfl) (by rfl) fun K hK => ?_
      go_simp
      refine hK.out _ _ ?_
      clear hK K
      have hnv : ∀ k, (Value.slice va vn vc).ownBlock = some k → w1.heap.size ≤ k := fun k hk => Nat.le_trans (Fr.size hSa) (hn4.2 k hk)
      have hend := HG.out.setH hSb hn4.1 hnv
      obtain ⟨W4, hW4⟩ : ∃ W4, w3.setCell ⟨mb, 1, none⟩ (.slice va vn vc) = W4 := ⟨_, rfl⟩
      rw [hW4] at hend ⊢
      have HA4 : Hid (DkA W4 mb { D with H := dropS D.H who s } (fun k => S k ∨ (Value.slice va vn vc).ownBlock = some k)) := ⟨_, _, hend.1⟩
      have HF4 : Hid (Fr w1 W4 S) := hend.2.mono fun k _ h => by have h : k = mb := h; rw [h]; exact HG.out.inB
      have HS4 : Hid (∀ k, (fun k => S k ∨ (Value.slice va vn vc).ownBlock = some k) k → S k ∨ w1.heap.size ≤ k) := fun k hk => hk.imp id (hnv k)
      have hbo4 := HB1.out.fr HF4.out (fun h => HX.out h)
      have r0 := hbo4.cell 0
      have r1 := hbo4.cell 1
      have r2 := hbo4.cell 2
      have cG := rregrant_any s W4 HA4.out (HDB.out.dropH who s)
      clear hSa hSb hf4 hn4 hvn hnv hend hW4 hrt c2 f2 k1 k2 k3 k6 cD hbo4
      go_wp2_with fail
      refine cG.mono ?_
      rintro e w5 ⟨v5, rfl, hg5⟩
      have HEND : Hid (GrantRet w S mb R.1.1 R.2 v5 w5) := by
        rw [HR.out]
        exact GrantRet.ahead HF1.out (GrantRet.then HF4.out HS4.out hg5)
      have hr2 : R.1.2 = 0 := by rw [HR.out]
      clear cG hg5
      go_wp2_with fail
      go_ret2
      exact ⟨_, by rw [hr2]; rfl, HEND.out⟩
  · have hRR := HR.out
    rw [free_some hs] at hRR
    subst hRR
    clear hs he r0 r1 r2 cH
    have hge : ((i : Nat) : Int) ≥ 0 := by omega
    go_wp2_with fail
    go_ret2
    exact ⟨_, rfl, GrantRet.ahead HF0.out (GrantRet.none HA.out (Fr.refl _ _))⟩
set_option maxRecDepth 100000 in
set_option maxHeartbeats 4000000 in
theorem rcancel_any {mb : Nat} {D : LkS} {S : Nat → Prop} (who : Int) (w : World) (h : DkA w mb D S) (hB : DkB D D.W.length) :
    Calls Tryz.prog 30 #[mkp mb, .int .i64 who] w (FreeDk w S mb (cancelL D who)) := by
  have HX : Hid (¬ S w.heap.size) := fun hk => by have := h.lt _ hk; omega
  have HA := Lib.hid h
  have HDB := Lib.hid hB
  have cW := rwish_any who w HA.out (by have := hB.2.2.2; omega)
  obtain ⟨R, hR⟩ : ∃ R, cancelL D who = R := ⟨_, rfl⟩
  rw [hR]
  have HR := Lib.hid hR.symm
  obtain ⟨hv0, wv0, hg0⟩ := h
  obtain ⟨wa, wc, rfl⟩ := hg0.wishes.shape
  have HG0 := Lib.hid hg0
  have m2 : w.cell? ⟨mb, 2, none⟩ = some (.slice wa D.W.length wc) := hg0.root.cell 2
  clear hB hR hg0
  go_enter Tryz.func30, Tryz.ntmps30
  go_wp2_with fail
  refine cW.mono ?_
  rintro e w2 ⟨r, rfl, hr, rfl⟩
  clear cW
  obtain ⟨w, rfl⟩ : ∃ w, w = w2 := ⟨_, rfl⟩
  rcases hr with ⟨rfl, hn⟩ | ⟨i, e, rfl, he, hs⟩
  · have hRR := HR.out
    rw [cancel_none hn] at hRR
    subst hRR
    clear hn
    go_wp2_with fail
    go_ret2
    exact ⟨_, rfl, GrantRet.none HA.out (Fr.refl _ _)⟩
  · have hilt : i < D.W.length := by
      rcases Nat.lt_or_ge i D.W.length with h | h
      · exact h
      · rw [List.getElem?_eq_none h] at he; cases he
    have hil : (i : Int) < (D.W.length : Int) := by omega
    have hge : ¬ ((i : Nat) : Int) < 0 := by omega
    have hwl : D.W.length ≤ 900000 := HDB.out.2.2.2
    obtain ⟨b, cap', hvv, _, hcl⟩ := HG0.out.wishes.form (by omega)
    simp only [Value.slice.injEq, true_and] at hvv
    obtain ⟨rfl, rfl⟩ := hvv
    obtain ⟨p0, p1, p2, _, _⟩ := hcl i e he
    have hRR := HR.out
    rw [cancel_some hs] at hRR
    have HR := Lib.hid hRR
    obtain ⟨s, hes⟩ : ∃ s, e.s = s := ⟨_, rfl⟩
    rw [hes] at p0 p1 p2 HR
    obtain ⟨w1, hw1⟩ : ∃ w1, w.alloc (.cells #[.int .i64 s.1, .bool s.2.1, .int .i64 s.2.2] 30) = w1 := ⟨_, rfl⟩
    have hf1 : Fr w w1 Nil := by rw [← hw1]; exact (Fr.refl w Nil).alloc _
    have hb1 : Bk w1 w.heap.size 30 [.int .i64 s.1, .bool s.2.1, .int .i64 s.2.2] := by rw [← hw1]; exact Bk.new w _ _
    have HF1 := Lib.hid hf1
    have HB1 := Lib.hid hb1
    have hg1 := HG0.out.fr0 hf1
    have HG := Lib.hid hg1
    have cD := fun (w' : World) (hf : Fr w1 w' Nil) => rdrop_any who s true w' (hg1.wishes.fr hf fun _ _ h => h) (by omega)
    rw [dropB_all] at cD
    have k1 : ∀ w', KeptN w1 w' → w'.cell? ⟨w.heap.size, 0, none⟩ = some (.int .i64 s.1) := KeptN.cell (hb1.cell 0)
    have k2 : ∀ w', KeptN w1 w' → w'.cell? ⟨w.heap.size, 1, none⟩ = some (.bool s.2.1) := KeptN.cell (hb1.cell 1)
    have k3 : ∀ w', KeptN w1 w' → w'.cell? ⟨w.heap.size, 2, none⟩ = some (.int .i64 s.2.2) := KeptN.cell (hb1.cell 2)
    have k6 : ∀ w', KeptN w1 w' → w'.cell? ⟨mb, 2, none⟩ = some (.slice (some ⟨b, 0, none⟩) D.W.length wc) := KeptN.cell (hg1.root.cell 2)
    clear hcl he hs hes hf1 hb1 hg1 hRR
    go_wp2_with fail
    try rw [hw1]
    refine wp_region_sink 10 (KeptN w1) (by kernel_rfl) ?_
    have hSa : KeptN w1 w1.drew := KeptN.start w1
    refine tk 0 hSa ?_
    refine tk 1 hSa ?_
    refine tk 2 hSa ?_
    refine tk 3 hSa ?_
    try simp only [Act.put, sA, sB, sC]
    refine tk 4 hSa ?_ (hy := by intro _ w; have ck6 := k6 _ w; go_simp <;> with_reducible rfl)
    try simp only [Act.put, sA, sB, sC]
    refine tk 5 hSa ?_
    try simp only [Act.put, sA, sB, sC]
    refine tk 6 hSa ?_ (hy := by intro _ w; have ck1 := k1 _ w; have ck2 := k2 _ w; have ck3 := k3 _ w; go_simp <;> with_reducible rfl)
    try simp only [Act.put, sA, sB, sC]
    refine on1 7 fun K hK => ?_
    go_simp
    refine (cD _ hSa).mono ?_
    rintro e w3 ⟨v4, rfl, hn4, hf4⟩
    obtain ⟨vn, hvn⟩ : ∃ vn, (dropA D.W who).length = vn := ⟨_, rfl⟩
    obtain ⟨va, vc, rfl⟩ := hn4.1.shape
    rw [hvn] at hn4 ⊢
    have hSb : KeptN w1 w3 := KeptN.next hSa hf4
    refine hK.out _ _ hSb ?_
    clear hK K
    try simp only [Act.put, sA, sB, sC]
    refine tk 8 hSb ?_
    refine tk 9 hSb ?_
    try simp only [Act.put, sA, sB, sC]
    have hrt := HG.out.root.fr hSb fun h => h
    have c2 := hrt.cell 2
    have f2 := hrt.free 2
    refine wpAnyS_last (i := 10) rfl (by kernel_rfl) (by decide) (by kernel_rfl) (by rfl) fun K hK => ?_
    go_simp
    refine hK.out _ _ ?_
    clear hK K
    have hnv : ∀ k, (Value.slice va vn vc).ownBlock = some k → w1.heap.size ≤ k := fun k hk => Nat.le_trans (Fr.size hSa) (hn4.2 k hk)
    have hend := HG.out.setW hSb (fun _ h => False.elim h) hn4.1 fun k hk => .inr (hnv k hk)
    obtain ⟨W4, hW4⟩ : ∃ W4, w3.setCell ⟨mb, 2, none⟩ (.slice va vn vc) = W4 := ⟨_, rfl⟩
    rw [hW4] at hend ⊢
    have HA4 : Hid (DkA W4 mb { D with W := dropA D.W who } (fun k => S k ∨ (Value.slice va vn vc).ownBlock = some k)) := ⟨_, _, hend.1⟩
    have HF4 : Hid (Fr w1 W4 S) := hend.2
    have HS4 : Hid (∀ k, (fun k => S k ∨ (Value.slice va vn vc).ownBlock = some k) k → S k ∨ w1.heap.size ≤ k) := fun k hk => hk.imp id (hnv k)
    have hbo4 := HB1.out.fr HF4.out (fun h => HX.out h)
    have r0 := hbo4.cell 0
    have r1 := hbo4.cell 1
    have r2 := hbo4.cell 2
    have cG := rregrant_any s W4 HA4.out ((HDB.out.dropW who).le (List.length_filter_le _ _))
    clear hSa hSb hf4 hn4 hvn hnv hend hW4 hrt c2 f2 k1 k2 k3 k6 cD hbo4
    go_wp2_with fail
    refine cG.mono ?_
    rintro e w5 ⟨v5, rfl, hg5⟩
    have HEND : Hid (GrantRet w S mb R.1.1 R.2 v5 w5) := by
      rw [HR.out]
      exact GrantRet.ahead HF1.out (GrantRet.then HF4.out HS4.out hg5)
    have hr2 : R.1.2 = 0 := by rw [HR.out]
    clear cG hg5
    go_wp2_with fail
    go_ret2
    exact ⟨_, by rw [hr2]; rfl, HEND.out⟩
end Go.Proofs.YtokeciekncincabGreat
